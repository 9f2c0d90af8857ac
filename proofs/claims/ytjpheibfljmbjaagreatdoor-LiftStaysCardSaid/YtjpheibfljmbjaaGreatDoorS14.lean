/- A part of the proof. -/
import Derived.Test.YtjpheibfljmbjaaGreatDoorS13
import Derived.Lib.ItoaLen
set_option maxRecDepth 100000
set_option maxHeartbeats 4000000
open Nat renaming lt_of_lt_of_le->Q0, le_of_ble_eq_true->Q1, lt_succ_self->Q2, add_assoc->J3
open List renaming all_cons->Q3, all_nil->Q4, getElem_mem->Q7, drop_append->Q9, drop_eq_nil_of_le->J1, mem_map->J4, length_map->J5
open Bool renaming and_true->Q6
open Go.Lib renaming decDigits->Q8
open Go.Proofs.Tryz
noncomputable section
open Go.Ev
namespace Go.Proofs.YtjpheibfljmbjaaGreatDoor
variable {A : List Nat}{C : ah->Option AV}{N cr k l m mr n o q r tr : Nat}{P : Program}{S : Self}{T : List ah}{b : ae}{c : Option Self}{cv fr v : AV}{s st st' : St}{sc : List (List ah)}{t : Tr AV}
theorem aba(x:ah)(hN:1<=N):(Tw c N).call 57 [.s x] st=some (.b false,st):=by obtain⟨N,rfl⟩:∃ N',N=N'+1:=⟨N-1,by omega⟩;rw[dt rfl func57 rfl (Q1 rfl)];unfold aV;simp[f57,jJ,aG,aF]
theorem RF(x y:ah)(hN:2<=N):(Tw c N).call 66 [.s x,.s y] st=some (.b (fX x y),st):=by
 obtain⟨N,rfl⟩:∃ N',N=N'+1:=⟨N-1,by omega⟩;rw[dt rfl func66 rfl (Q1 rfl)];unfold aV;have n1:=fun st:St=>aba (c:=c) (st:=st) x (N:=N) (by omega)
 simp[f66,n1,TE,aG,aF]
def vr(l:List ah)(i:Nat):Prop:=∀ j (h:j+1<l.length),i<=j->fX l[j+1] l[j]=false
def UT(o:Option (AV× St))(l:List ah):Prop:=∃ b,tW o (.b b)/\(b=true↔vr l 0)
theorem acx{l:List ah}(hv:de v (l.map .s))(hl:l.length<=9223372036854775807)(hN:10000000000000000005<=N):
  ∃ b,(∀ st,(Tw c N).call 36 [v] st=some (.b b,st))/\(b=true↔vr l 0):=by
 obtain⟨N,rfl⟩:∃ N',N=N'+1:=⟨N-1,by omega⟩;have hp:aQ [v]=true:=by simp[aQ,hv.pure (jD l)]
 suffices h:UT (aV c N f36 (f36.body.getD .skip) [v] aK) l by obtain⟨b,h1,h2⟩:=h;exact⟨b,fun st=>jc (X:=[]) rfl rfl (.inr (by decide)) (.pure hp) func36 rfl (Q1 rfl) rfl h1,h2⟩
 unfold aV;have ln:=fun st:St=>hv.sLen (st:=st) gz
 have e0:wr .i64 ((l.length:Int)-1)=(l.length:Int)-1:=aZ (by omega) (by omega);simp[f36,ln,e0,bw];generalize hL:bf _ _ _ _=L;have lr:=fW hL 0 (l.length-1) (fun i t _=>ab t 0=v/\(l.length=0/\ab t 3=.i .i64 (-1)\/1<=l.length/\ab t 3=.i .i64 ((l.length-1-i:Nat):Int))/\vr l (l.length-1-i)) (fun _ _=>vr l 0) (fun t _=>ab t 2=.b false/\¬ vr l 0) (by omega)
  ⟨by simp,by
   by_cases h:l.length=0
   ·left;refine⟨h,?_⟩;simp[h]
   ·right;refine⟨by omega,?_⟩;simp;omega,fun j hj h=>by omega⟩
  (by
   rintro i t st hi ⟨i0,i3,iS⟩;clear hL;rcases i3 with ⟨h,-⟩|⟨h1,i3⟩
   ·omega
   obtain⟨m,hm⟩:∃ m,l.length-1-i=m+1:=⟨l.length-1-i-1,by omega⟩;rw[hm]at i3 iS;have e3:(0:Int)<((m+1:Nat):Int):=by omega
   have e4:wr .i64 (((m+1:Nat):Int)-1)=(m:Int):=by rw[aZ (by omega) (by omega)];omega
   obtain⟨a1,x1,d1⟩:=hv.sat gz nU (show m+1<l.length by omega);obtain⟨a2,x2,d2⟩:=hv.sat gz nU (show m<l.length by omega);rw[show((m+1:Nat):Int)=(m:Int)+1 from by omega]at i3 e3 x1;have e4:wr .i64 (m:Int)=(m:Int):=aZ (by omega) (by omega);have ls:=fun st:St=>RF (c:=c) (st:=st) l[m+1] l[m] (N:=N) (by omega)
   cases hb:fX l[m+1] l[m] with
   |true =>right;simp[i3,e3,br];rw[dj (by kernel_rfl)];simp[i0,i3,e4,x1,d1,x2,d2,ls,hb];intro hS;have:=hS m (by omega) (by omega);rw[hb]at this;cases this
   |false =>
    left;simp[i3,e3,br];rw[dj (by kernel_rfl)];simp[i0,i3,e4,x1,d1,x2,d2,ls,hb];rw[show l.length-1-(i+1)=m by omega];refine⟨⟨h1,rfl⟩,fun j hj h=>?_⟩;by_cases hj':j=m
    ·subst hj';exact hb
    ·exact iS j hj (by omega))
  (by
   rintro t st ⟨i0,i3,iS⟩;clear hL;have e3:vr l 0:=fun j hj _=>iS j hj (by omega)
   rcases i3 with ⟨h,i3⟩|⟨h1,i3⟩
   ·simp[i3];exact e3
   ·rw[show l.length-1-(l.length-1)=0 by omega]at i3;simp[i3];exact e3)
 clear hL;rcases lr with ⟨t1,s1,rfl,hT⟩|⟨t1,s1,rfl,hT,hF⟩
 ·exact⟨true,by simp[aG,aF],by simpa using hT⟩
 ·exact⟨false,by simp[hT,aG,aF],by simpa using hF⟩
structure cK where
 n:ah
 ar:Int
 ty:ah
 tag:Int
def cK.cells(d:cK):List AV:=[.s d.n,.i .i64 d.ar,.s d.ty,.i .i64 d.tag]
def iq(v:AV)(ds:List cK):Prop:=uz v 4 (ds.map cK.cells)
def CE(d e:cK):Bool:=decide (d.n=e.n)&&(decide (d.ar=e.ar)&&(decide (d.ty=e.ty)&&decide (d.tag=e.tag)))
theorem IZ(d:cK):aQ d.cells=true:=by simp[cK.cells,aQ,bg]
theorem AN(d:cK):bq d.cells=true:=by simp[cK.cells]
theorem pure_cons:∀ ds:List cK,aQ ((ds.map cK.cells).flatten)=true
 |[]=>rfl
 |d::ds=>by simp[uP,IZ,pure_cons ds]
theorem iq.pure{ds:List cK}(h:iq v ds):bg v=true:=by
 rcases h.1 with ⟨rfl,-⟩|rfl
 ·rfl
 ·simp only[bg];exact pure_cons ds
theorem ady:(!prog.stoodInHeld 35&&!prog.eqGuardType prog.depth 35)=true:=by kernel_rfl
theorem VH:∃ fs,prog.underlying 54=some (.struct fs)/\fs.toList.map (fun f=>(f.type,f.offset,f.name == "_"))=[(9,0,false),(3,1,false),(9,2,false),(3,3,false)]:=⟨_,underlying54,by kernel_rfl⟩
theorem CU {xs ys:List AV}{f:Field}{fs:List Field}{t:Nat}{a b:AV}{r:Bool}(hf:(f.type,f.offset,f.name == "_")=(t,o,false)) (h1:Go.Ev.part P t xs o=some a) (h2:Go.Ev.part P t ys o=some b) (h3:ik P t a b=some r):
  tk P xs ys (f::fs)=if r=true then tk P xs ys fs else some false:=by
 simp only[Prod.mk.injEq]at hf;obtain⟨rfl,rfl,hn⟩:=hf;simp only[tk,h1,h2,h3,hn];cases r<;>rfl
theorem Kc(a b:ah):ik prog 9 (.s a) (.s b)=some (decide (a=b)):=by
 unfold ik;simp only[underlying9];show some (leq a b)=_
 rw[wh]
theorem Rq(a b:Int):ik prog 3 (.i .i64 a) (.i .i64 b)=some (decide (a=b)):=by
 unfold ik;simp only[underlying3];show @Bool.rec (fun _=>Option Bool) none (some (pV a b)) (ud .i64 .i64)=_
 rw[Li,ru]
theorem Xq(d e:cK)(k:Bool):mG prog 54 k (.ag d.cells) (.ag e.cells)=some (CE d e):=by
 show DT prog 54 d.cells e.cells=_
 obtain⟨fs,h1,h2⟩:=VH;unfold DT;rw[h1];simp only[];generalize fs.toList=fl at h2|-;rcases fl with _|⟨f0,_|⟨f1,_|⟨f2,_|⟨f3,_|⟨f4,tl⟩⟩⟩⟩⟩
 case cons.cons.cons.cons.nil =>
  simp only[List.map_cons,List.map_nil,List.cons.injEq,and_true]at h2;obtain⟨g0,g1,g2,g3⟩:=h2;have p9:∀ (d:cK),Go.Ev.part prog 9 d.cells 0=some (.s d.n):=fun d=>by rw[Dj jT nU];rfl
  have p92:∀ (d:cK),Go.Ev.part prog 9 d.cells 2=some (.s d.ty):=fun d=>by rw[Dj jT nU];rfl
  have p3:∀ (d:cK),Go.Ev.part prog 3 d.cells 1=some (.i .i64 d.ar):=fun d=>by rw[Dj nS EJ];rfl
  have p33:∀ (d:cK),Go.Ev.part prog 3 d.cells 3=some (.i .i64 d.tag):=fun d=>by rw[Dj nS EJ];rfl
  rw[CU g0 (p9 d) (p9 e) (Kc _ _),CU g1 (p3 d) (p3 e) (Rq _ _),CU g2 (p92 d) (p92 e) (Kc _ _),CU g3 (p33 d) (p33 e) (Rq _ _)];unfold CE;by_cases h1:d.n=e.n<;>by_cases h2:d.ar=e.ar<;>by_cases h3:d.ty=e.ty<;>by_cases h4:d.tag=e.tag<;>simp[h1,h2,h3,h4,tk]
 all_goals simp at h2
theorem Ld(d e:cK)(k:Bool):Go.Ev.binOp prog 54 k .eql (.ag d.cells) (.ag e.cells)=some (.b (CE d e)):=by
 show mb prog 54 k .eql (.ag d.cells) (.ag e.cells)=_
 unfold mb;rw[Xq]
theorem yp{ds:List cK}(h:iq v ds)(hk:k<ds.length):∃ r,indexAddr prog 22 v (.i .i64 (k:Int))=some (.rp (ds[k].cells++r)):=by have:=h.at Gk (by simpa using hk);simpa using this
theorem AA(d:cK)(r:List AV):loadAt prog 54 st (.rp (d.cells++r))=some (.ag d.cells):=kO dx yH dq rfl
theorem zB{ds:List cK}(h:iq v ds):ft prog st [22] [v]=some (.i .i64 (ds.length:Int),st):=by have:=uz.ft (st:=st) Gk h;simpa using this
theorem ZJ(d:cK){ds:List cK}(hv:iq v ds)(hl:ds.length<=9223372036854775807)(hN:10000000000000000000<=N):
  ∃ n:Int,∀ st,(Tw c N).call 104 [v,.ag d.cells] st=some (.i .i64 n,st):=by
 obtain⟨N,rfl⟩:∃ N',N=N'+1:=⟨N-1,by omega⟩;have hp:aQ [v,.ag d.cells]=true:=by simp[aQ,bg,hv.pure,IZ]
 suffices h:∃ n:Int,tW (aV c N f104 (f104.body.getD .skip) [v,.ag d.cells] aK) (.i .i64 n) by obtain⟨n,h1⟩:=h;exact⟨n,fun st=>jc (X:=[]) rfl rfl (.inr (by decide)) (.pure hp) func104 rfl (Q1 rfl) rfl h1⟩
 unfold aV;have ln:=fun st:St=>zB (st:=st) hv
 have hc:=cz (st:=aK) d.cells;have h0:aK.next<(aK.aw d.cells).next:=Q2 _;obtain⟨r0,hr0⟩:∃ r,aK.next=r:=⟨_,rfl⟩;obtain⟨s0,hs0⟩:∃ s,aK.aw d.cells=s:=⟨_,rfl⟩;rw[hr0,hs0]at hc;have hld:loadAt prog 54 s0 (.p r0 0)=some (.ag d.cells):=by rw[lS dx yH,dq,au hc];rfl
 simp[f104,ln,hr0,hs0,bw];generalize hL:bf _ _ _ _=L;have lr:=fW hL 0 ds.length (fun i t s=>s=s0/\ab t 0=v/\ab t 3=.p r0 0/\ab t 7=.i .i64 (ds.length:Int)/\ab t 8=.i .i64 (i:Int)) (fun _ _=>True) (fun t _=>∃ n:Int,ab t 4=.i .i64 n) (by omega)
  ⟨rfl,by simp,by simp,by simp,by simp⟩
  (by
   rintro i t s hi ⟨rfl,i0,i3,i7,i8⟩;clear hL;have e3:(i:Int)<(ds.length:Int):=by omega
   have e4:wr .i64 ((i:Int)+1)=((i+1:Nat):Int):=by rw[aZ (by omega) (by omega)];rfl
   obtain⟨r,ix⟩:=yp hv hi;have ld:=fun st:St=>AA (st:=st) ds[i] r
   cases hb:CE d ds[i] with
   |true =>right;simp[i7,i8,e3,br];rw[dj (by kernel_rfl)];simp[i0,i3,ix,ld,hld,Ld,hb]
   |false =>left;simp[i7,i8,e3,br];rw[dj (by kernel_rfl)];simp[i0,i3,i8,ix,ld,hld,Ld,hb,e4];exact⟨_,_,⟨rfl,rfl⟩,rfl,by simp[i0],by simp[i3],by simp[i7],by simp⟩)
  (by rintro t s ⟨rfl,i0,i3,i7,i8⟩;clear hL;simp[i7,i8])
 clear hL;rcases lr with ⟨t1,s1,rfl,hT⟩|⟨t1,s1,rfl,n,hT⟩
 ·exact⟨-1,by simp[aG,aF]⟩
 ·exact⟨n,by simp[hT,aG,aF]⟩
theorem Rj(d:cK){ds:List cK}(hv:iq v ds)(hl:ds.length<=9223372036854775807)(hN:10000000000000000001<=N):
  ∃ b:Bool,∀ st,(Tw c N).call 65 [v,.ag d.cells] st=some (.b b,st):=by
 obtain⟨N,rfl⟩:∃ N',N=N'+1:=⟨N-1,by omega⟩;have hp:aQ [v,.ag d.cells]=true:=by simp[aQ,bg,hv.pure,IZ]
 obtain⟨n,h1⟩:=ZJ (c:=c) d hv hl (N:=N) (by omega);refine⟨decide (0<=n),fun st=>jc (X:=[]) rfl rfl (.inr (by decide)) (.pure hp) func65 rfl (Q1 rfl) rfl ?_⟩;unfold aV;have hc:=cz (st:=aK) d.cells;have hld:loadAt prog 54 (aK.aw d.cells) (.p aK.next 0)=some (.ag d.cells):=by rw[lS dx yH,dq,au hc];rfl
 simp[f65,hld,h1,aG,aF]
def tM:List cK:=[⟨[70,97,108,115,101],0,[66,111,111,108],0⟩,⟨[84,114,117,101],0,[66,111,111,108],1⟩,⟨[78,105,108],0,[76,105,115,116],0⟩,⟨[67,111,110,115],2,[76,105,115,116],1⟩,⟨[85,110,105,116],0,[85,110,105,116],0⟩]
def LZ:Option AV:=match jQ.call 64 [] aK with
 |some (v,s)=>gG (Nat.ble 0) 6 s v
 |none=>none
theorem VY:LZ=some (.rs ((tM.map cK.cells).flatten) 5 4):=by kernel_rfl
theorem acr(hN:1<=N):(Tw c N).call 64 [] st=some (.rs ((tM.map cK.cells).flatten) 5 4,st):=by
 obtain⟨N,rfl⟩:∃ N',N=N'+1:=⟨N-1,by omega⟩;have h:=VY;unfold LZ at h;split at h
 ·rename_i v s hv;rw[tH (.inr (by decide))];show(ic G0 jQ (ic G1 _ _)).call 64 [] st=_
  rw[l9 rfl,l9 rfl];exact Ob rfl rfl hv ⟨6,h⟩ (by exact pure_cons _)
 grind
theorem Is:iq (.rs ((tM.map cK.cells).flatten) 5 4) tM:=⟨.inr rfl,fun x hx=>by obtain⟨d,-,rfl⟩:=J4.1 hx;rfl⟩
def Ut(v:AV)(ds:List cK)(r:Nat)(i:Nat)(t:Tr AV)(s:St):Prop :=
 ab t 0=v/\ab t 3=.m r/\ab t 12=v/\ab t 13=.i .i64 (ds.length:Int)/\ab t 14=.i .i64 (i:Int)/\r<s.next/\(∀ j (h:j<ds.length),j<i->ds[j].ar<=32)/\∃ seen,cS s r (iD seen)
def Wq(t:Tr AV):Prop:=∃ b,ab t 2=.b b/\b=false
def aay(v:AV)(ds:List cK)(t:Tr AV):Prop:=ab t 0=v/\∀ d∈ds,d.ar<=32
def Kf(t:Tr AV):Prop:=∃ b,ab t 2=.b b
def aa4(o:Option (AV× St))(ds:List cK):Prop:=∃ b,tW o (.b b)/\(b=true->∀ d∈ds,d.ar<=32)
theorem Mp{ds:List cK}(hv:iq v ds)(hl:ds.length<=1000000)(hN:10000000000000000010<=N):∃ b:Bool,(∀ st,(Tw c N).call 33 [v] st=some (.b b,st))/\(b=true->∀ d∈ds,d.ar<=32):=by
 obtain⟨N,rfl⟩:∃ N',N=N'+1:=⟨N-1,by omega⟩;have hp:aQ [v]=true:=by simp[aQ,hv.pure]
 suffices h:aa4 (aV c N f33 (f33.body.getD .skip) [v] aK) ds by obtain⟨b,h1,h2⟩:=h;exact⟨b,fun st=>jc (X:=[]) rfl rfl (.inr (by decide)) (.pure hp) func33 rfl (Q1 rfl) rfl h1,h2⟩
 unfold aV;have ln:=fun st:St=>zB (st:=st) hv
 have hm:=cS.new aK;have hr0:aK.next<(aK.new (.mp [] 0)).next:=Q2 _;obtain⟨r,hr⟩:∃ r,aK.next=r:=⟨_,rfl⟩;obtain⟨s0,hs0⟩:∃ s,aK.new (.mp [] 0)=s:=⟨_,rfl⟩;rw[hr,hs0]at hm hr0;simp[f33,ln,hr,hs0,bw];generalize hL:bf _ _ _ _=L;have lr:=fW hL 0 ds.length (Ut v ds r) (fun t s=>aay v ds t) (fun t _=>Wq t) (by omega)
  ⟨by simp,by simp,by simp,by simp,by simp,hr0,fun j hj h=>(by omega),[],by
   have:iD []=fun _=>none:=by funext x;simp[iD]
   rw[this];exact hm⟩
  (by
   rintro i t s hi ⟨i0,i3,i12,i13,i14,irl,iA,seen,iM⟩;clear hL;have e3:(i:Int)<(ds.length:Int):=by omega
   have e4:wr .i64 ((i:Int)+1)=((i+1:Nat):Int):=by rw[aZ (by omega) (by omega)];rfl
   obtain⟨q,ix⟩:=yp hv hi;have ld:=fun st:St=>AA (st:=st) ds[i] q
   obtain⟨d,hd⟩:∃ d,ds[i]=d:=⟨_,rfl⟩;rw[hd]at ix ld;have hcl:d.cells.length=4:=rfl;obtain⟨s2,u1,u2,u3,u4⟩:=cO (s:=s) (z:=gP) (cells:=d.cells) rfl (AN d);have mp2:=iM.keep u3 irl (by simp);have c0:cut d.cells 0 1=some [.s d.n]:=rfl;have c1:cut d.cells 1 1=some [.i .i64 d.ar]:=rfl;have c2:cut d.cells 2 1=some [.s d.ty]:=rfl;have c3:cut d.cells 3 1=some [.i .i64 d.tag]:=rfl;have n1:=fun st:St=>yL (c:=c) (st:=st) d.n (N:=N) (by omega)
   have n2:=fun st:St=>yL (c:=c) (st:=st) d.ty (N:=N) (by omega)
   have lk:=mp2.get gW d.n;rw[ze]at lk;obtain⟨s3,v1,v2,v3,v4⟩:=mp2.set gW d.n (.b true);rw[wX]at v2;have hne:s.next∉[r]:=by simp;omega
   have u2':=v3.ce u2 u4 u4 hne (by simp);have rl3:r<s3.next:=by rw[v4];exact Q0 irl u3.next
   cases h1:named d.n with
   |false =>right;simp[i12,i13,i14,e3,ix,ld,aJ,dW,aI dx dq,hcl,u1,au u2,c0,n1,h1];exact⟨false,by simp⟩
   |true =>
   cases h2:named d.ty with
   |false =>right;simp[i12,i13,i14,e3,ix,ld,aJ,dW,aI dx dq,hcl,u1,au u2,c0,c2,n1,n2,h1,h2];exact⟨false,by simp⟩
   |true =>
   by_cases h3:d.n∈seen
   case pos =>right;simp[i3,i12,i13,i14,e3,ix,ld,aJ,dW,aI dx dq,hcl,u1,au u2,c0,c2,n1,n2,lk,h1,h2,h3];exact⟨false,by simp⟩
   by_cases h4:d.ar<0
   case pos =>right;simp[i3,i12,i13,i14,e3,ix,ld,aJ,dW,aI dx dq,hcl,u1,au u2,c0,c1,c2,n1,n2,lk,h1,h2,h3,h4];exact⟨false,by simp⟩
   by_cases h5:32<d.ar
   case pos =>right;simp[i3,i12,i13,i14,e3,ix,ld,aJ,dW,aI dx dq,hcl,u1,au u2,c0,c1,c2,n1,n2,lk,h1,h2,h3,h4,h5];exact⟨false,by simp⟩
   have AR:∀ j (h:j<ds.length),j<i+1->ds[j].ar<=32:=fun j hj hji=>by
    rcases Nat.lt_succ_iff_lt_or_eq.1 hji with hji|rfl
    ·exact iA j hj hji
    ·rw[hd];omega
   by_cases hz:i=0
   case pos =>
    have z0:¬ 0<i:=by omega
    by_cases hg:d.tag=0
    case pos =>left;simp[i3,i12,i13,i14,e3,ix,ld,aJ,dW,aI dx dq,hcl,u1,au u2,c0,c1,c2,n1,n2,lk,h1,h2,h3,h4,h5,v1,br];rw[dj (by kernel_rfl)];simp[z0,br];rw[dj (by kernel_rfl)];simp[i14,e4,au u2',c3,z0,hg];exact⟨_,_,⟨rfl,rfl⟩,by simp[i0],by simp[i3],by simp[i12],by simp[i13],by simp,rl3,AR,seen++[d.n],v2⟩
    right;simp[i3,i12,i13,i14,e3,ix,ld,aJ,dW,aI dx dq,hcl,u1,au u2,c0,c1,c2,n1,n2,lk,h1,h2,h3,h4,h5,v1,br];rw[dj (by kernel_rfl)];simp[z0,br];rw[dj (by kernel_rfl)];simp[au u2',c3,z0,hg];exact⟨false,by simp⟩
   have z0:0<i:=by omega
   have z1:wr .i64 ((i:Int)-1)=((i-1:Nat):Int):=by rw[aZ (by omega) (by omega)];omega
   obtain⟨q2,ix2⟩:=yp hv (show i-1<ds.length by omega);obtain⟨p,hp'⟩:∃ p,ds[i-1]=p:=⟨_,rfl⟩;rw[hp']at ix2;have d2:cut ((p.cells++q2).drop 2) 0 1=some [.s p.ty]:=rfl;have d3:cut ((p.cells++q2).drop 3) 0 1=some [.i .i64 p.tag]:=rfl;by_cases ht:p.ty=d.ty
   case pos =>
    by_cases hg:d.tag=wr .i64 (p.tag+1)
    case pos =>left;simp[i3,i12,i13,i14,e3,ix,ld,aJ,dW,aI dx dq,hcl,u1,au u2,c0,c1,c2,n1,n2,lk,h1,h2,h3,h4,h5,v1,br];rw[dj (by kernel_rfl)];simp[i0,i14,e4,au u2',c2,c3,cM,z0,z1,ix2,d2,d3,ht,hg];exact⟨_,_,⟨rfl,rfl⟩,by simp[i0],by simp[i3],by simp[i12],by simp[i13],by simp,rl3,AR,seen++[d.n],v2⟩
    right;simp[i3,i12,i13,i14,e3,ix,ld,aJ,dW,aI dx dq,hcl,u1,au u2,c0,c1,c2,n1,n2,lk,h1,h2,h3,h4,h5,v1,br];rw[dj (by kernel_rfl)];simp[i0,au u2',c2,c3,cM,z0,z1,ix2,d2,d3,ht,hg];exact⟨false,by simp⟩
   cases hgt:(!(fX p.ty d.ty||leq p.ty d.ty)) with
   |true =>right;simp[i3,i12,i13,i14,e3,ix,ld,aJ,dW,aI dx dq,hcl,u1,au u2,c0,c1,c2,n1,n2,lk,h1,h2,h3,h4,h5,v1,br];rw[dj (by kernel_rfl)];simp[i0,au u2',c2,cM,z0,z1,ix2,d2,ht,br];rw[dj (by kernel_rfl)];simp[i0,au u2',c2,pe,z0,z1,ix2,d2,hgt];exact⟨false,by simp⟩
   |false =>
    by_cases hg:d.tag=0
    case pos =>left;simp[i3,i12,i13,i14,e3,ix,ld,aJ,dW,aI dx dq,hcl,u1,au u2,c0,c1,c2,n1,n2,lk,h1,h2,h3,h4,h5,v1,br];rw[dj (by kernel_rfl)];simp[i0,au u2',c2,cM,z0,z1,ix2,d2,ht,br];rw[dj (by kernel_rfl)];simp[i0,i14,e4,au u2',c2,c3,pe,z0,z1,ix2,d2,hgt,hg];exact⟨_,_,⟨rfl,rfl⟩,by simp[i0],by simp[i3],by simp[i12],by simp[i13],by simp,rl3,AR,seen++[d.n],v2⟩
    right;simp[i3,i12,i13,i14,e3,ix,ld,aJ,dW,aI dx dq,hcl,u1,au u2,c0,c1,c2,n1,n2,lk,h1,h2,h3,h4,h5,v1,br];rw[dj (by kernel_rfl)];simp[i0,au u2',c2,cM,z0,z1,ix2,d2,ht,br];rw[dj (by kernel_rfl)];simp[i0,au u2',c2,c3,pe,z0,z1,ix2,d2,hgt,hg];exact⟨false,by simp⟩)
  (by rintro t s ⟨i0,i3,i12,i13,i14,irl,iA,seen,iM⟩;clear hL;simp[i13,i14];refine⟨by simpa using i0,fun d hd=>?_⟩;obtain⟨j,hj,rfl⟩:=List.getElem_of_mem hd;exact iA j hj hj)
 clear hL;rcases lr with ⟨t1,s1,rfl,p0,pA⟩|⟨t1,s1,rfl,b,hb,hbf⟩
 case inr=>exact⟨b,by simp[hb,aG,aF],fun h=>by rw[hbf]at h;cases h⟩
 have bc:=fun st:St=>acr (c:=c) (st:=st) (N:=N) (by omega)
 have bl:=fun st:St=>zB (st:=st) Is
 simp[bc,bl,bw];generalize hL:bf _ _ _ _=L;have lr:=fW hL 2 5 (fun i t s=>ab t 0=v/\ab t 86=.rs ((tM.map cK.cells).flatten) 5 4/\ab t 87=.i .i64 5/\ab t 88=.i .i64 (i:Int)) (fun t s=>ab t 0=v) (fun t _=>Kf t) (by omega)
  ⟨by simp[p0],by simp,by simp[tM],by simp⟩
  (by
   rintro i t s hi ⟨i0,i86,i87,i88⟩;clear hL;have e3:(i:Int)<5:=by omega
   have e4:wr .i64 ((i:Int)+1)=((i+1:Nat):Int):=by rw[aZ (by omega) (by omega)];rfl
   have hi':i<tM.length:=hi;obtain⟨q,ix⟩:=yp Is hi';have ld:=fun st:St=>AA (st:=st) tM[i] q
   generalize tM[i]=d at *;have hcl:d.cells.length=4:=rfl;obtain⟨s2,u1,u2,u3,u4⟩:=cO (s:=s) (z:=gP) (cells:=d.cells) rfl (AN d);have hld:loadAt prog 54 s2 (.p s.next 0)=some (.ag d.cells):=by rw[lS dx yH,dq,au u2];rfl
   obtain⟨b,hb⟩:=Rj (c:=c) d hv (by omega) (N:=N) (by omega);cases b with
   |true =>left;simp[i0,i86,i87,i88,e3,e4,ix,ld,aJ,dW,aI dx dq,hcl,u1,hld,hb]
   |false =>right;simp[i0,i86,i87,i88,e3,ix,ld,aJ,dW,aI dx dq,hcl,u1,hld,hb];exact⟨false,by simp⟩)
  (by rintro t s ⟨i0,i86,i87,i88⟩;clear hL;simp[i87,i88];exact i0)
 clear hL;rcases lr with ⟨t2,s2,rfl,p0⟩|⟨t2,s2,rfl,b,hb⟩
 case inr=>exact⟨b,by simp[hb,aG,aF],fun _=>pA⟩
 simp[p0,ln,bw];generalize hL:bf _ _ _ _=L;have lr:=fW hL 4 ds.length (fun i t s=>ab t 0=v/\ab t 97=v/\ab t 98=.i .i64 (ds.length:Int)/\ab t 99=.i .i64 (i:Int)) (fun t s=>True) (fun t _=>Kf t) (by omega)
  ⟨by simp[p0],by simp,by simp,by simp⟩
  (by
   rintro i t s hi ⟨i0,i97,i98,i99⟩;clear hL;have e3:(i:Int)<(ds.length:Int):=by omega
   have e4:wr .i64 ((i:Int)+1)=((i+1:Nat):Int):=by rw[aZ (by omega) (by omega)];rfl
   obtain⟨q,ix⟩:=yp hv hi;have ld:=fun st:St=>AA (st:=st) ds[i] q
   obtain⟨d,hd⟩:∃ d,ds[i]=d:=⟨_,rfl⟩;rw[hd]at ix ld;have hcl:d.cells.length=4:=rfl;have c2:cut d.cells 2 1=some [.s d.ty]:=rfl;obtain⟨s2,u1,u2,u3,u4⟩:=cO (s:=s) (z:=gP) (cells:=d.cells) rfl (AN d);have hld:loadAt prog 54 s2 (.p s.next 0)=some (.ag d.cells):=by rw[lS dx yH,dq,au u2];rfl
   obtain⟨b,hb⟩:=Rj (c:=c) d Is (by decide) (N:=N) (by omega);by_cases tB:d.ty=[66,111,111,108]
   case pos =>
    cases b with
    |true =>
     left;simp[i97,i98,i99,e3,ix,ld,aJ,dW,aI dx dq,hcl,u1,br];rw[eJ (fl:=[(15,0)])]
     rotate_left
     ·kernel_rfl
     ·intro R hR;simp[au u2,c2,cM,bc,hb,hld,tB]at hR;subst hR;simp only[Q3,Q4,Q6]
      first|rfl|exact bV rfl rfl rfl (s:=s2) (by simp[hld])
     simp[i0,i97,i98,i99,e4,au u2,c2,cM,bc,hb,hld,tB]
    |false =>
     right;simp[i97,i98,i99,e3,ix,ld,aJ,dW,aI dx dq,hcl,u1,br];rw[eJ (fl:=[(15,0)])]
     rotate_left
     ·kernel_rfl
     ·intro R hR;simp[au u2,c2,cM,bc,hb,hld,tB]at hR;subst hR;simp only[Q3,Q4,Q6]
      first|rfl|exact bV rfl rfl rfl (s:=s2) (by simp[hld])
     simp[au u2,c2,cM,bc,hb,hld,tB];exact⟨false,by simp⟩
   by_cases tL:d.ty=[76,105,115,116]
   case pos =>
    cases b with
    |true =>
     left;simp[i97,i98,i99,e3,ix,ld,aJ,dW,aI dx dq,hcl,u1,br];rw[eJ (fl:=[(15,0)])]
     rotate_left
     ·kernel_rfl
     ·intro R hR;simp[au u2,c2,cM,bc,hb,hld,tL]at hR;subst hR;simp only[Q3,Q4,Q6]
      first|rfl|exact bV rfl rfl rfl (s:=s2) (by simp[hld])
     simp[i0,i97,i98,i99,e4,au u2,c2,cM,bc,hb,hld,tL]
    |false =>
     right;simp[i97,i98,i99,e3,ix,ld,aJ,dW,aI dx dq,hcl,u1,br];rw[eJ (fl:=[(15,0)])]
     rotate_left
     ·kernel_rfl
     ·intro R hR;simp[au u2,c2,cM,bc,hb,hld,tL]at hR;subst hR;simp only[Q3,Q4,Q6]
      first|rfl|exact bV rfl rfl rfl (s:=s2) (by simp[hld])
     simp[au u2,c2,cM,bc,hb,hld,tL];exact⟨false,by simp⟩
   by_cases tU:d.ty=[85,110,105,116]
   case pos =>
    cases b with
    |true =>
     left;simp[i97,i98,i99,e3,ix,ld,aJ,dW,aI dx dq,hcl,u1,br];rw[eJ (fl:=[(15,0)])]
     rotate_left
     ·kernel_rfl
     ·intro R hR;simp[au u2,c2,cM,bc,hb,hld,tU]at hR;subst hR;simp only[Q3,Q4,Q6]
      first|rfl|exact bV rfl rfl rfl (s:=s2) (by simp[hld])
     simp[i0,i97,i98,i99,e4,au u2,c2,cM,bc,hb,hld,tU]
    |false =>
     right;simp[i97,i98,i99,e3,ix,ld,aJ,dW,aI dx dq,hcl,u1,br];rw[eJ (fl:=[(15,0)])]
     rotate_left
     ·kernel_rfl
     ·intro R hR;simp[au u2,c2,cM,bc,hb,hld,tU]at hR;subst hR;simp only[Q3,Q4,Q6]
      first|rfl|exact bV rfl rfl rfl (s:=s2) (by simp[hld])
     simp[au u2,c2,cM,bc,hb,hld,tU];exact⟨false,by simp⟩
   left;simp[i97,i98,i99,e3,ix,ld,aJ,dW,aI dx dq,hcl,u1,br];rw[eJ (fl:=[(15,0)])]
   rotate_left
   ·kernel_rfl
   ·intro R hR;simp[au u2,c2,cM,bc,tB,tL,tU]at hR;subst hR;simp only[Q3,Q4,Q6]
    first|rfl|exact bV rfl rfl rfl (s:=s2) (by simp[hld])
   simp[i0,i97,i98,i99,e4,au u2,c2,cM,tB,tL,tU])
  (by rintro t s ⟨i0,i97,i98,i99⟩;clear hL;simp[i98,i99])
 clear hL;rcases lr with ⟨t3,s3,rfl,-⟩|⟨t3,s3,rfl,b,hb⟩
 ·exact⟨true,by simp[aG,aF],fun _=>pA⟩
 ·exact⟨b,by simp[hb,aG,aF],fun _=>pA⟩
theorem Tn{ds:List cK}(hv:iq v ds)(hl:ds.length<=1000000)(hN:10000000000000000010<=N):∃ b:Bool,∀ st,(Tw c N).call 33 [v] st=some (.b b,st):=by obtain⟨b,h,-⟩:=Mp hv hl hN;exact⟨b,h⟩
theorem abk:fu prog 105=true:=by kernel_rfl
theorem Ua:df prog 105 []=fun st=>some (.ag [.i .i64 0,.b false],st):=by kernel_rfl
theorem Rr(t:Tr AV)(s:St):bH (.build 105 #[]) prog S t s=some (.ag [.i .i64 0,.b false],s):=by
 show @Bool.rec (fun _=>aR) none (df prog 105 [] s) (fu prog 105)=_
 rw[abk,Ua]
def nN(b:ae):Bool:=decide (b.depth<=4096)&&decide (b.size<=1048576)
def TQ(s:St)(r cr:Nat)(cv bv:AV)(b:ae)(i:Nat):Prop:=(∃ al,s.ce r=some ([cv,bv],r,al))/\r<s.next/\r≠cr/\rY s cr (eu b.list i)/\eu b.list i<=1048576/\∀ j (h:j<b.list.length),j<i->b.list[j].2.depth<=4096
theorem UY(hcv:bg cv=true)(_:bS cv=true)(hb:b.Ty 1)(hs:b.size<=1000000)(hN:b.size+10000000000000000010<=N):
  (Tw c N).call 30 [.ag [cv,b.slice 8]] st=some (.b (!nN b),st):=by
 obtain⟨N,rfl⟩:∃ N',N=N'+1:=⟨N-1,by omega⟩;have hp:aQ [.ag [cv,b.slice 8]]=true:=by grind[aQ,bg,ae.mg]
 refine jc (X:=[]) rfl rfl (.inr (by decide)) (.pure hp) func30 rfl (Q1 rfl) rfl ?_;unfold aV;have lb:=fun st:St=>aY (st:=st) underlying23 (b.bK 8) (b.bJ 8)
 have hbl:=b.bZ;have c0:=cz (st:=aK) [cv,b.slice 8];have k0:aK.next<(aK.aw [cv,b.slice 8]).next:=Q2 _;obtain⟨r,hr⟩:∃ r,aK.next=r:=⟨_,rfl⟩;obtain⟨s0,hs0⟩:∃ s,aK.aw [cv,b.slice 8]=s:=⟨_,rfl⟩;rw[hr,hs0]at c0 k0;have c1:=cz (st:=s0) [.i .i64 0,.b false];have kn:=Kp.aw (st:=s0) [] [] [.i .i64 0,.b false];have c01:=kn.ce c0 k0 k0 (by simp) (by simp);have k1:s0.next<(s0.aw [.i .i64 0,.b false]).next:=Q2 _;obtain⟨cr,hcr⟩:∃ r,s0.next=r:=⟨_,rfl⟩;obtain⟨s1,hs1⟩:∃ s,s0.aw [.i .i64 0,.b false]=s:=⟨_,rfl⟩;rw[hcr,hs1]at c1 k1;rw[hs1]at c01 kn;have bc1:rd s1 r 1 1=some [b.slice 8]:=by rw[au c01];rfl
 simp[f30,hr,hs0,Rr,hcr,hs1,bc1,lb,bw];generalize hL:bf _ _ _ _=L;have lr:=fW hL 0 b.list.length (fun i t s=>ab t 1=.p r 0/\ab t 3=.p cr 0/\ab t 9=.i .i64 (b.len:Int)/\ab t 10=.i .i64 (i:Int)/\TQ s r cr cv (b.slice 8) b i) (fun t s=>nN b=true) (fun t s=>ab t 2=.b true/\nN b=false) (by rw[<- ae.aC]; omega)
  ⟨by simp,by simp,by simp,by simp,⟨_,c01⟩,Q0 k0 kn.next,by omega,by rw[mB];exact⟨⟨_,false,c1⟩,k1⟩,by rw[mB];omega,fun j hj h=>by omega⟩
  (by
   rintro i t s hi ⟨i1,i3,i9,i10,⟨al,iR⟩,iL,iN,iC,iB,iS⟩;clear hL;have hil:i<b.len:=by rw[ae.aC];exact hi
   have e5:(i:Int)<(b.len:Int):=by omega
   have e7:wr .i64 ((i:Int)+1)=((i+1:Nat):Int):=by rw[aZ (by omega) (by omega)];rfl
   obtain⟨q,q1,q2⟩:=eR hb.pre (show eD 1+7=8 from rfl) hi;have ix:=dV underlying23 dn cV b.flat b.len i hil;rw[<-ae.cZ hil,q1]at ix;have hmem:=Q7 hi;have hTi:=ae.cU hb _ hmem;have hsz':=ae.dU hmem;have hd:(b.list[i].1++(b.list[i].2.cells++q)).drop 1=b.list[i].2.cells++q:=by have q2':b.list[i].1.length=1:=q2;rw[Q9,q2'];simp[q2',J1]
   have bcs:rd s r 1 1=some [b.slice 8]:=by rw[au iR];rfl
   obtain⟨bb,n',s',g1,g2,g3,g4⟩:=Qg _ hTi.2.wf cr (eu b.list i) 1 s (.rp (b.list[i].2.cells++q)) N (by omega) (by omega) (by omega) iC (.inl ⟨q,rfl⟩);have g1':(Tw c N).call 60 [.p cr 0,.rp (b.list[i].2.cells++q),.i .i64 1] s=some (.b bb,s'):=g1;have iR':=g3.ce iR iL iL (by simp[iN]) (by simp[iN]);cases bb with
   |true =>
    left;obtain⟨y1,y2,y3⟩:=g4.yes rfl;simp[i1,i3,i9,i10,e5,e7,bcs,ix,hd,g1'];refine⟨_,_,⟨rfl,rfl⟩,by simp[i1],by simp[i3],by simp[i9],by simp,⟨_,iR'⟩,Q0 iL g3.next,iN,?_,?_,fun j hj hji=>?_⟩
    ·rw[fY hi,<-y1];exact g2
    ·rw[fY hi];exact y3
    ·by_cases hje:j=i
     ·subst hje;omega
     ·exact iS j hj (by omega)
   |false =>
    right;simp[i1,i3,i9,i10,e5,bcs,ix,hd,g1'];rw[Bool.eq_false_iff];intro hf;unfold nN at hf;simp only[Bool.and_eq_true,decide_eq_true_eq]at hf;have hdp':=ae.BF hmem;have hsum:eu b.list i+b.list[i].2.size<=b.size:=by rw[<-fY hi];exact AX _ hi
    have:=g4.fit (by omega) (by omega);cases this)
  (by
   rintro t s ⟨i1,i3,i9,i10,⟨al,iR⟩,iL,iN,iC,iB,iS⟩;clear hL;simp[i9,i10,ae.aC];unfold nN;rw[mP]at iB;have hd:b.depth<=4096:=ae.Ax fun j hj=>iS j hj hj
   simp[hd,iB])
 clear hL;rcases lr with ⟨t1,s1,rfl,hT⟩|⟨t1,s1,rfl,hT,hF⟩
 ·rw[hT];simp[aG,aF]
 ·rw[hF];simp[hT,aG,aF]
def mL:List cK->ah->Option AV
 |[]=>fun _=>none
 |d::ds=>upd (mL ds) d.n (.ag d.cells)
theorem OT:∀ ds:List cK,zt (mL ds)
 |[],s,v,h=>by cases h
 |d::ds,s,v,h=>by
  unfold mL upd at h;split at h
  ·cases h;exact⟨d.n,d.ar,d.ty,d.tag,rfl⟩
  ·exact OT ds s v h
def Hk:Code->Code
 |.block _ x=>x
 |x=>x
noncomputable def nr:Code:=f31.body.getD .skip
noncomputable def Ey:Code:=Hk (aj (aq (aj (aj nr))))
def PQ:Code->Code
 |.rangeFunc _ _ a _=>a
 |x=>x
def MH:Code->Code
 |.rangeFunc _ _ _ b=>b
 |x=>x
noncomputable def oD:Code:=PQ Ey
noncomputable def nK:Code:=MH Ey
theorem LP{nt:Nat}{k:Code}:(Tw c (n+1)).code nt k t st=ao k ⟨prog,Tw c n,true,nt,n⟩ t st:=by cases c<;>rfl
structure vN(s:St)(l r4 r3 cr mr:Nat)(v:AV)(t:Tr AV)(C:ah->Option AV):Prop where
 row:s.get l=some (.lp t 22 [12,13] oD nK)
 ll:l<s.next
 c4:∃ al,s.ce r4=some ([v],r4,al)
 c3:∃ al,s.ce r3=some ([.p cr 0],r3,al)
 cc:∃ al,s.ce cr=some ([.m mr,.i .i64 0],cr,al)
 mp:cS s mr C
 lt:r4<l/\r3<l/\cr<l/\mr<l
 ne:r4≠mr/\r3≠mr/\cr≠mr
theorem Wh{r4 r3:Nat}(h:vN s l r4 r3 cr mr v t C)(h3:ab t 3=.p r3 0)(d:cK)(i:Int)(hN:2<=N):
  ∃ s',round (Tw c N) l [.i .i64 i,.ag d.cells] s=some (.b true,s')/\vN s' l r4 r3 cr mr v t (upd C d.n (.ag d.cells))/\Kp [mr,l] [] s s':=by
 obtain⟨N,rfl⟩:∃ N',N=N'+1:=⟨N-1,by omega⟩;obtain⟨hrow,hll,⟨a4,c4⟩,⟨a3,c3⟩,⟨ac,cc⟩,hmp,⟨l4,l3,lc,lm⟩,n4,n3,nc⟩:=h;have kd:Kp [l] [] s (s.drop l):=.drop (by simp);have nl:∀ x,x<l->x∉[l]:=fun x hx=>by grind
 have hcl:d.cells.length=4:=rfl;obtain⟨s2,u1,u2,u3,u4⟩:=cO (z:=gP) (cells:=d.cells) rfl (AN d);have k2:=kd.trans (u3.sub (by simp) (by simp));have mp2:=hmp.keep k2 (by omega) (nl _ lm);obtain⟨s3,v1,v2,v3,v4⟩:=mp2.set xe d.n (.ag d.cells);have c3':=k2.ce c3 (by omega) (by omega) (nl _ l3) (by simp);have cc':=k2.ce cc (by omega) (by omega) (nl _ lc) (by simp);have c0:cut d.cells 0 1=some [.s d.n]:=rfl;have hld:loadAt prog 54 s2 (.p (s.drop l).next 0)=some (.ag d.cells):=by rw[lS dx yH,dq,au u2];rfl
 have ptr56:bp prog 67=true:=by kernel_rfl
 have Rc:et prog 67=false:=by kernel_rfl
 unfold round;rw[hrow];have hset:Ew 22 [12,13] [.i .i64 i,.ag d.cells] t=some ((t.set 12 (some (.i .i64 i))).set 13 (some (.ag d.cells))):=rfl;simp only[hset,LP];have hA:∃ t2,ao oD ⟨prog,Tw c N,true,22,N⟩ ((t.set 12 (some (.i .i64 i))).set 13 (some (.ag d.cells))) (s.drop l)=.nx t2 s2/\ab t2 3=.p r3 0/\ab t2 5=.p (s.drop l).next 0:=by simp_all[oD,Ey,nr,PQ,Hk,aq,aj,f31,aJ,dW,aI,dx,dq]
 obtain⟨t2,hA,q3,q5⟩:=hA;rw[hA];show ∃ s',Dr l (.lp t 22 [12,13] oD nK) ((Tw c (N+1)).code 22 nK t2 s2)=some (.b true,s')/\vN s' l r4 r3 cr mr v t (upd C d.n (.ag d.cells))/\Kp [mr,l] [] s s'
 rw[LP];have hB:∃ t3,ao nK ⟨prog,Tw c N,true,22,N⟩ t2 s2=.nx t3 s3:=by simp[nK,Ey,nr,MH,Hk,aq,aj,f31,br];rw[dj (by kernel_rfl)];simp[q3,q5,oE ptr56 Rc,au c3',au cc',au u2,c0,hld,v1]
 obtain⟨t3,hB⟩:=hB;rw[hB];have k3:Kp [mr,l] [] s s3:=(k2.sub (by simp) (by simp)).trans (v3.sub (by simp) (by simp));have k4:Kp [mr,l] [] s (s3.put l (.lp t 22 [12,13] oD nK)):=k3.trans (.put (by simp));have kp:∀ x,x<l->x≠mr->x∉[mr,l]:=fun x h1 h2=>by simp;omega
 refine⟨_,rfl,⟨uT _ _,Q0 hll k4.next,⟨_,k4.ce c4 (by omega) (by omega) (kp _ l4 n4) (by simp)⟩,⟨_,k4.ce c3 (by omega) (by omega) (kp _ l3 n3) (by simp)⟩,⟨_,k4.ce cc (by omega) (by omega) (kp _ lc nc) (by simp)⟩,
  v2.keep (Kp.put (B:=[]) (by simp)) (Q0 (by omega) k3.next) (nl _ lm),⟨l4,l3,lc,lm⟩,n4,n3,nc⟩,k4⟩
def kF(st:St)(r n:Nat):Prop:=r<st.next/\∃ es k,st.get r=some (.mp es k)/\strKeys es/\(∀ e∈es,e.2.2<k)/\(es.map (·.2.2)).Nodup/\es.length<=n
theorem DL:∀ (es:List fk) (i:Nat) (v:AV),(mf es i v).map (·.2.2)=es.map (·.2.2)
 |[],_,_=>rfl
 |(_,_,_)::_,0,_=>rfl
 |e::es,i+1,v=>by simp[mf,DL es i v]
theorem kF.keep{B:List Nat}(h:kF st r n)(k:Kp A B st st')(hr:r∉A):kF st' r n:=by obtain⟨h0,es,q,h1,h2⟩:=h;exact⟨Q0 h0 k.next,es,q,by rw[k.get _ h0 hr];grind,h2⟩
theorem kF.le(h:kF st r n)(hm:n<=m):kF st r m:=by obtain⟨h0,es,k,h1,h2,h3,h4,h5⟩:=h;exact⟨h0,es,k,h1,h2,h3,h4,by omega⟩
theorem kF.set(h:kF st r n)(s:ah)(v:AV):∃ st',mapUpdate prog 49 st (.m r) (.s s) v=some st'/\kF st' r (n+1)/\Kp [r] [] st st':=by
 obtain⟨h0,es,k,h1,h2,h3,h4,h5⟩:=h;unfold mapUpdate;simp only[gW.fits s,h1];rcases xw h2 s with ⟨h6,h7⟩|⟨i,w,h6,h7,h8⟩
 ·rw[h6];refine⟨_,rfl,⟨h0,_,_,uT _ _,CC h2,fun e he=>?_,?_,by grind⟩,.put (by simp)⟩
  ·rcases List.mem_append.1 he with he|he
   ·have:=h3 e he;omega
   ·rw[List.mem_singleton.1 he];exact Q2 _
  ·rw[List.map_append,List.nodup_append];refine⟨h4,by simp,fun a ha b hb=>?_⟩;obtain⟨e,he,rfl⟩:=J4.1 ha;have:=h3 e he;have:b=k:=by simpa using hb
   omega
 ·rw[h6,Nat.zero_add];refine⟨_,rfl,⟨h0,_,_,uT _ _,(h8 v).1,fun e he=>?_,by rw[DL];grind,?_⟩,.put (by simp)⟩
  ·have:e.2.2∈es.map (·.2.2):=by grind[DL]
   grind
  grind[DL,J5]
def Xn(c:Option Self)(x:Ex):Prop:=x.Ty->x.size<=1000000->∀ (st:St) (m q:Nat) (sc:List (List ah)) (fr:AV) (r:List AV) (N:Nat),kF st m q->jj st m fr sc->aQ r=true->
 4*x.size+sc.length+10000000000000000030<=N->∃ st',(Tw c N).call 159 [.rp (x.cells++r),fr,.m m] st=some (.tu [],st')/\kF st' m (q+x.size)/\Kp [m] [] st st'
def HP(st s:St)(t:Tr AV)(m q:Nat)(e fi:AV):Prop:=ab t 0=e/\ab t 2=.m m/\ab t 6=fi/\kF s m q/\Kp [m] [] st s
theorem jj.pd(h:jj st cr fr sc)(k:Kp [cr] [] st st'):jj st' cr fr sc:=by obtain⟨h1,w,h2,h3⟩:=h;exact⟨h1,w,h2.keep k (by simp) (by simp),h3⟩
noncomputable def qV:Code:=f159.body.getD .skip
theorem Zy(k:Int)(nm:ah)(num:Int)(ps:AV)(b a l:ae)(r:List AV)(hTb:b.Ty 1)(hps:jY ps)(hbl:b.len<=1000000)(hm:kF st m q)(hf:jj st m fr sc)(hN:10000000000000000000<=N):
  ∃ t s,ao (aq qV) ⟨prog,Tw c N,false,f159.ntmps,N⟩ (tmpsOf [.rp (.i .i64 k::.s nm::.i .i64 num::ps::b.slice 8::a.slice 7::l.slice 11::r),fr,.m m] 0 .lf) st=.nx t s/\
   ab t 0=.rp (.i .i64 k::.s nm::.i .i64 num::ps::b.slice 8::a.slice 7::l.slice 11::r)/\ab t 2=.m m/\jj s m (ab t 6) (ba ps::b.names::sc)/\kF s m q/\Kp [m] [] st s:=by
 obtain⟨hp,hpl⟩:=hps.sl;obtain⟨wb,hw1,hw2⟩:=Gp (c:=c) (st:=st) hTb hbl (N:=N) hN;have bo1:=fun(t:Tr AV) (q1:ai t (.tmp 18)=wb) (q2:ai t (.tmp 19)=fr)=>wy (st:=st) (S:=Tw c N) (t:=t) q1 q2 (qD hw2) hf.1.1
 have f1:=hf.new hw2 (by rw[ae.names,J5,<-ae.aC];omega) hm.1;have kn1:=Kp.aw (st:=st) [] [] [wb,fr];have bo2:=fun(t:Tr AV) (q1:ai t (.tmp 13)=ps) (q2:ai t (.tmp 21)=.p st.next 0)=>wy (st:=st.aw [wb,fr]) (S:=Tw c N) (t:=t) q1 q2 (qD hp) (by simp)
 have f2:=f1.new hp hpl (Q0 hm.1 kn1.next);have kn2:=Kp.aw (st:=st.aw [wb,fr]) [] [] [ps,.p st.next 0];have hm2:=(hm.keep kn1 (by simp)).keep kn2 (by simp);have e2:(st.aw [wb,fr]).next=st.next+1:=rfl;rw[e2]at f2;simp only[qV,aq,f159];simp[br];rw[eJ (fl:=[(3,9)])]
 rotate_left
 ·kernel_rfl
 ·intro R hR;simp[hw1,bo1,bo2]at hR;subst hR;simp only[Q3,Q4,Q6]
  first|rfl|exact bV rfl rfl rfl (s:=st) (by simp)
 simp[hw1,bo1,bo2,e2];exact⟨_,_,⟨rfl,rfl⟩,by simp,by simp,by simpa using f2,hm2,(Kp.aw [m] [] _).trans (Kp.aw [m] [] _)⟩
theorem Vk(k:Int)(nm:ah)(num:Int)(ps:AV)(b a l:ae)(r:List AV)(h0:ab t 0=.rp (.i .i64 k::.s nm::.i .i64 num::ps::b.slice 8::a.slice 7::l.slice 11::r))(h2:ab t 2=.m m)(hm:kF st m q)(hf:jj st m (ab t 6) sc)(hN:sc.length+10000000000000000002<=N):
  ∃ t' s,ao (aq (aj qV)) ⟨prog,Tw c N,false,f159.ntmps,N⟩ t st=.nx t' s/\
   ab t' 0=ab t 0/\ab t' 2=.m m/\ab t' 6=ab t 6/\kF s m (q+1)/\Kp [m] [] st s:=by
 obtain⟨-,fw,f2,f3⟩:=id hf;have hh:=Rv (c:=c) nm f2 f3 hN;obtain⟨s',u1,u2,u3⟩:=hm.set nm (.b true);by_cases hk:k=1
 ·subst hk;cases hb:hasB sc nm with
  |true =>rw[hb]at hh;simp[qV,aq,aj,f159,h0,hh];exact⟨_,_,⟨rfl,rfl⟩,by simp[h0],by simp[h2],by simp,hm.le (by omega),.refl _ _ _⟩
  |false =>rw[hb]at hh;simp[qV,aq,aj,f159,h0,h2,hh,u1];exact⟨_,_,⟨rfl,rfl⟩,by simp[h0],by simp[h2],by simp,u2,u3⟩
 ·simp[qV,aq,aj,f159,h0,hk];exact⟨_,_,⟨rfl,rfl⟩,by simp[h0],by simp[h2],by simp,hm.le (by omega),.refl _ _ _⟩
def Iw(st s:St)(t:Tr AV)(m q:Nat)(e fi:AV)(i n kl ki:Nat):Prop :=
 ab t 0=e/\ab t 2=.m m/\ab t 6=fi/\ab t kl=.i .i64 (n:Int)/\ab t ki=.i .i64 (i:Int)/\kF s m q/\Kp [m] [] st s
theorem aa8:∀ x,Xn c x:=by
 refine Ex.ind fun k nm num ps b a l hb ha hl=>?_
 intro hT hs st m q sc fr r N hm hf hr hN;obtain⟨N,rfl⟩:∃ N',N=N'+1:=⟨N-1,by omega⟩;rw[dt rfl func159 rfl (Q1 rfl)];unfold aV;have hT':=hT;simp only[Ex.Ty]at hT;obtain⟨-,hps,hTb,hTa,hTl⟩:=hT;have hsz:(Ex.mk k nm num ps b a l).size=1+b.size+a.size+l.size:=by simp only[Ex.size]
 have hbl:=b.bZ;have hal:=a.bZ;have hll:=l.bZ;have lb:=fun st:St=>aY (st:=st) underlying23 (b.bK 8) (b.bJ 8)
 have la:=fun st:St=>aY (st:=st) underlying32 (a.bK 7) (a.bJ 7)
 have ll:=fun st:St=>aY (st:=st) underlying33 (l.bK 11) (l.bJ 11)
 have hcl:(Ex.mk k nm num ps b a l).cells++r=.i .i64 k::.s nm::.i .i64 num::ps::b.slice 8::a.slice 7::l.slice 11::r:=by simp[Ex.cells]
 rw[hcl];obtain⟨t0,s0,h0,p0,p2,pF,pM,pK⟩:=Zy (N:=N) k nm num ps b a l r hTb hps (by omega) hm hf (by omega);obtain⟨t1,s1,h1,q0,q2,q6,qM,qK⟩:=Vk (N:=N) k nm num ps b a l r p0 p2 pM pF (by simp;omega);rw[p0]at q0;obtain⟨fi,hfi⟩:∃ fi,ab t1 6=fi:=⟨_,rfl⟩;rw[<-q6,hfi]at pF;have pF:=pF.pd qK;have K1:=pK.trans qK;show ∃ st',eE prog f159.results.toList (bT (ao (aq qV) ⟨prog,Tw c N,false,f159.ntmps,N⟩ (tmpsOf [.rp (.i .i64 k::.s nm::.i .i64 num::ps::b.slice 8::a.slice 7::l.slice 11::r),fr,.m m] 0 .lf) st) (fun t s=>bT (ao (aq (aj qV)) ⟨prog,Tw c N,false,f159.ntmps,N⟩ t s) (ao (aj (aj qV)) ⟨prog,Tw c N,false,f159.ntmps,N⟩)))=some (.tu [],st')/\kF st' m (q+(Ex.mk k nm num ps b a l).size)/\Kp [m] [] st st'
 rw[h0,dK,h1,dK];clear h0 h1 p0 p2 q6;simp[qV,aj,f159,q0,la,bw];generalize hL:bf _ _ _ _=L;obtain⟨t3,s3,rfl,z0,z2,z6,zM,zK⟩:=dy hL 0 a.list.length
  (fun i t s=>Iw s1 s t m (q+1+eu a.list i) (.rp (.i .i64 k::.s nm::.i .i64 num::ps::b.slice 8::a.slice 7::l.slice 11::r)) fi i a.len 47 48)
  (fun t s=>HP s1 s t m (q+1+a.size) (.rp (.i .i64 k::.s nm::.i .i64 num::ps::b.slice 8::a.slice 7::l.slice 11::r)) fi) (by rw[<-ae.aC];omega)
  ⟨by simp[q0],by simp[q2],by simp[hfi],by simp,by simp,by rw[mB];exact qM,.refl _ _ _⟩
  (by
   rintro i t s hi ⟨i0,i2,i6,il,ii,iM,iK⟩;clear hL;have hil:i<a.len:=by rw[ae.aC];exact hi
   have e5:(i:Int)<(a.len:Int):=by omega
   have e7:wr .i64 ((i:Int)+1)=((i+1:Nat):Int):=by rw[aZ (by omega) (by omega)];rfl
   obtain⟨r1,r2,r3⟩:=eR hTa.pre (show eD 0+7=7 from rfl) hi;have ix:=dV underlying32 cI aH a.flat a.len i hil;rw[<-ae.cZ hil,r2,List.eq_nil_of_length_eq_zero r3,List.nil_append]at ix;have hmem:=Q7 hi;have hTi:=ae.cU hTa _ hmem;have hsz':=ae.dU hmem;have hpr1:aQ r1=true:=wM hTa hi r2 r3;obtain⟨s4,x1,x2,x3⟩:=ha _ hmem hTi.2 (by omega) s m _ _ fi r1 N iM (pF.pd iK) hpr1 (by simp;omega);simp[i0,i2,i6,il,ii,e5,e7,ix,x1];exact⟨_,_,⟨rfl,rfl⟩,by simp[i0],by simp[i2],by simp[i6],by simp[il],by simp,by rw[fY hi,<-J3];exact x2,iK.trans x3⟩)
  (by rintro t s ⟨i0,i2,i6,il,ii,iM,iK⟩;clear hL;simp[il,ii,ae.aC];exact⟨_,_,⟨rfl,rfl⟩,by simp[i0],by simp[i2],by simp[i6],by rw[mP]at iM;exact iM,iK⟩)
 clear hL;simp[z0,lb,bw];generalize hL:bf _ _ _ _=L;obtain⟨t4,s4,rfl,u0,u2,u6,uM,uK⟩:=dy hL 2 b.list.length
  (fun i t s=>Iw s3 s t m (q+1+a.size+eu b.list i) (.rp (.i .i64 k::.s nm::.i .i64 num::ps::b.slice 8::a.slice 7::l.slice 11::r)) fi i b.len 65 66)
  (fun t s=>HP s3 s t m (q+1+a.size+b.size) (.rp (.i .i64 k::.s nm::.i .i64 num::ps::b.slice 8::a.slice 7::l.slice 11::r)) fi) (by rw[<-ae.aC];omega)
  ⟨by simp[z0],by simp[z2],by simp[z6],by simp,by simp,by rw[mB];exact zM,.refl _ _ _⟩
  (by
   rintro i t s hi ⟨i0,i2,i6,il,ii,iM,iK⟩;clear hL;have hil:i<b.len:=by rw[ae.aC];exact hi
   have e5:(i:Int)<(b.len:Int):=by omega
   have e7:wr .i64 ((i:Int)+1)=((i+1:Nat):Int):=by rw[aZ (by omega) (by omega)];rfl
   obtain⟨r1,r2,r3⟩:=eR hTb.pre (show eD 1+7=8 from rfl) hi;have ix:=dV underlying23 dn cV b.flat b.len i hil;rw[<-ae.cZ hil,r2]at ix;have hmem:=Q7 hi;have hTi:=ae.cU hTb _ hmem;have hsz':=ae.dU hmem;have hpr1:aQ r1=true:=wM hTb hi r2 r3;have hd:(b.list[i].1++(b.list[i].2.cells++r1)).drop 1=b.list[i].2.cells++r1:=by have r3':b.list[i].1.length=1:=r3;rw[Q9,r3'];simp[r3',J1]
   obtain⟨s5,x1,x2,x3⟩:=hb _ hmem hTi.2 (by omega) s m _ _ fi r1 N iM ((pF.pd zK).pd iK) hpr1 (by simp;omega);simp[i0,i2,i6,il,ii,e5,e7,ix,hd,x1];exact⟨_,_,⟨rfl,rfl⟩,by simp[i0],by simp[i2],by simp[i6],by simp[il],by simp,by rw[fY hi,<-J3];exact x2,iK.trans x3⟩)
  (by rintro t s ⟨i0,i2,i6,il,ii,iM,iK⟩;clear hL;simp[il,ii,ae.aC];exact⟨_,_,⟨rfl,rfl⟩,by simp[i0],by simp[i2],by simp[i6],by rw[mP]at iM;exact iM,iK⟩)
 clear hL;simp[u0,ll,bw];generalize hL:bf _ _ _ _=L;obtain⟨t5,s5,rfl,v0,v2,v6,vM,vK⟩:=dy hL 4 l.list.length
  (fun i t s=>Iw s4 s t m (q+1+a.size+b.size+eu l.list i) (.rp (.i .i64 k::.s nm::.i .i64 num::ps::b.slice 8::a.slice 7::l.slice 11::r)) fi i l.len 84 85)
  (fun t s=>HP s4 s t m (q+1+a.size+b.size+l.size) (.rp (.i .i64 k::.s nm::.i .i64 num::ps::b.slice 8::a.slice 7::l.slice 11::r)) fi) (by rw[<-ae.aC];omega)
  ⟨by simp[u0],by simp[u2],by simp[u6],by simp,by simp,by rw[mB];exact uM,.refl _ _ _⟩
  (by
   rintro i t s hi ⟨i0,i2,i6,il,ii,iM,iK⟩;clear hL;have hil:i<l.len:=by rw[ae.aC];exact hi
   have e5:(i:Int)<(l.len:Int):=by omega
   have e7:wr .i64 ((i:Int)+1)=((i+1:Nat):Int):=by rw[aZ (by omega) (by omega)];rfl
   obtain⟨r1,r2,r3⟩:=eR hTl.pre (show eD 4+7=11 from rfl) hi;have ix:=dV underlying33 cy bU l.flat l.len i hil;rw[<-ae.cZ hil,r2]at ix;have hmem:=Q7 hi;have hTi:=ae.cU hTl _ hmem;have hsz':=ae.dU hmem;have hpr1:aQ r1=true:=wM hTl hi r2 r3;obtain⟨vs,hp4,hvs,hvl⟩:=Ca hTi.1;have hd:(l.list[i].1++(l.list[i].2.cells++r1)).drop 4=l.list[i].2.cells++r1:=by rw[hp4];rfl
   have hd3:cut ((l.list[i].1++(l.list[i].2.cells++r1)).drop 3) 0 1=some [vs]:=by rw[hp4];rfl
   have fK:jj s m fi (ba ps::b.names::sc):=((pF.pd zK).pd uK).pd iK;have bo:=fun(t:Tr AV) (q1:ai t (.tmp 102)=vs) (q2:ai t (.tmp 103)=fi)=>wy (st:=s) (S:=Tw c N) (t:=t) q1 q2 (qD hvs) fK.1.1
   have nf:=fK.new hvs hvl iM.1;have kn:=Kp.aw (st:=s) [m] [] [vs,fi];have nk:=iM.keep (Kp.aw (st:=s) [] [] [vs,fi]) (by simp);obtain⟨s6,x1,x2,x3⟩:=hl _ hmem hTi.2 (by omega) (s.aw [vs,fi]) m _ _ (.p s.next 0) r1 N nk nf hpr1 (by simp;omega);simp[il,ii,e5,br];rw[dj (by kernel_rfl)];simp[i0,i2,i6,ii,e7,ix,hd,hd3,bo,x1];exact⟨_,_,⟨rfl,rfl⟩,by simp[i0],by simp[i2],by simp[i6],by simp[il],by simp,by rw[fY hi,<-J3];exact x2,iK.trans (kn.trans x3)⟩)
  (by rintro t s ⟨i0,i2,i6,il,ii,iM,iK⟩;clear hL;simp[il,ii,ae.aC];exact⟨_,_,⟨rfl,rfl⟩,by simp[i0],by simp[i2],by simp[i6],by rw[mP]at iM;exact iM,iK⟩)
 clear hL;exact⟨s5,by simp[aG,aF],by rw[hsz];exact vM.le (by omega),((K1.trans zK).trans uK).trans vK⟩
theorem PD(x:Ex)(hw:x.Wf)(hs:x.size<=1000000)(hN:2000000<=N):
  ∃ b st',aV c N f40 (f40.body.getD .skip) [.ag x.cells] st=some (.b b,st')/\(x.depth<=4096->b=true)/\(b=true->x.depth<=4096):=by
 have c0:=cz (st:=st) x.cells;have k0:st.next<(st.aw x.cells).next:=Q2 _;obtain⟨r,hr⟩:∃ r,st.next=r:=⟨_,rfl⟩;obtain⟨s0,hs0⟩:∃ s,st.aw x.cells=s:=⟨_,rfl⟩;rw[hr,hs0]at c0 k0;have c1:=cz (st:=s0) [.i .i64 0,.b false];have kn:=Kp.aw (st:=s0) [] [] [.i .i64 0,.b false];have c01:=kn.ce c0 k0 k0 (by simp) (by simp);have k1:s0.next<(s0.aw [.i .i64 0,.b false]).next:=Q2 _;obtain⟨cr,hcr⟩:∃ r,s0.next=r:=⟨_,rfl⟩;obtain⟨s1,hs1⟩:∃ s,s0.aw [.i .i64 0,.b false]=s:=⟨_,rfl⟩;rw[hcr,hs1]at c1 k1;rw[hs1]at c01;obtain⟨b,n',s2,g1,g2,g3,g4⟩:=Qg x hw cr 0 1 s1 (.p r 0) N (by omega) (by omega) (by omega) ⟨⟨_,false,c1⟩,k1⟩ (.inr ⟨r,_,rfl,c01,by omega,by omega⟩);have g1':(Tw c N).call 60 [.p cr 0,.p r 0,.i .i64 1] s1=some (.b b,s2):=g1;unfold aV;refine⟨b,s2,?_,fun h=>g4.fit (by omega) (by omega),fun h=>?_⟩
 ·simp[f40,hr,hs0,Rr,hcr,hs1,g1',aG,aF]
 ·have:=(g4.yes h).2.1;omega
theorem WV(x:Ex)(hT:x.Ty)(hs:x.size<=1000000)(hN:2000000<=N):
  ∃ b,(Tw c (N+1)).call 40 [.ag x.cells] st=some (.b b,st)/\(x.depth<=4096->b=true)/\(b=true->x.depth<=4096):=by
 obtain⟨b,s',h1,h2,h3⟩:=PD x hT.wf hs hN;exact⟨b,jc (X:=[]) rfl rfl (.inr (by decide)) (.pure (by simp[aQ,bg,Ex.nX hT])) func40 rfl (Q1 rfl) rfl ⟨s',h1⟩,h2,h3⟩
theorem aaQ(x:Ex)(hT:x.Ty)(hs:x.size<=1000000)(hN:4*x.size+10000000000000000030<=N):∃ l:List ah,l.length<=1000000/\sY (raw c N) x.cells=some (jS l):=by
 obtain⟨b,s2,h1,-,-⟩:=PD x hT.wf hs (N:=N) (by omega);have h40:(raw c N).call 40 [.ag x.cells] (sA x.cells)=some (.b b,s2):=(UJ rfl func40 rfl (Q1 rfl)).trans h1;unfold sY;rw[h40];cases b with
 |false=>exact⟨[],by simp,rfl⟩
 |true =>have hm:kF (s2.new (.mp [] 0)) s2.next 0:=⟨Q2 _,[],0,by rw[St.pP,if_pos rfl],trivial,fun e he=>by grind,by simp,by simp⟩;obtain⟨s3,g1,g2,g3⟩:=aa8 (c:=c) x hT hs (s2.new (.mp [] 0)) s2.next 0 [] .pn [] (N+1) hm .pn rfl (by grind);rw[tx (by decide) rfl rfl rfl rfl rfl (by decide),List.append_nil]at g1;obtain⟨q0,es,k,q1,q2,q3,q4,q5⟩:=g2;simp only[g1,q1];rw[if_pos ⟨q0,q2,q3,q4,by omega⟩];grind[xJ,jR]
theorem acB(x:Ex)(hT:x.Ty)(hs:x.size<=1000000)(hN:4*x.size+10000000000000000030<=N):∃ l:List ah,l.length<=1000000/\∀ st,(Tw c (N+1)).call 122 [.ag x.cells] st=some (jS l,st):=by obtain⟨l,h0,h⟩:=aaQ x hT hs hN;exact⟨l,h0,fun st=>Tg (Ex.nX hT) x.aO h⟩
@[simp] theorem adz(t:Tr AV):ai t (.const .nilFunc)=.fn0:=rfl
theorem Ue(hv:v.cells=some [v])(hN:1<=N):(Tw c N).call 61 [v] st=some (.f (.func 102) [] [.p st.next 0],st.aw [v]):=by obtain⟨N,rfl⟩:∃ N',N=N'+1:=⟨N-1,by omega⟩;rw[dt rfl func61 rfl (Q1 rfl)];simp_all[aV,aG,aF]
theorem Sa{r4 r3:Nat}{tq:Tr AV}{ds:List cK}(hv:iq v ds)(hl:ds.length<=1000000)(h:vN s l r4 r3 cr mr v tq (mL []))(h3:ab tq 3=.p r3 0)(hN:10000000000000000010<=N):
  ∃ s',(Tw c N).call 102 [.f (.yield l) [] [],.p r4 0] s=some (.tu [],s')/\vN s' l r4 r3 cr mr v tq (mL ds)/\Kp [mr,l] [] s s':=by
 obtain⟨N,rfl⟩:∃ N',N=N'+1:=⟨N-1,by omega⟩;rw[dt rfl func102 rfl (Q1 rfl)];unfold aV;have ln:=fun st:St=>zB (st:=st) hv
 obtain⟨a4,c4⟩:=h.c4;have e0:wr .i64 ((ds.length:Int)-1)=(ds.length:Int)-1:=aZ (by omega) (by omega);have b4:rd s r4 0 1=some [v]:=by rw[au c4];rfl
 simp[f102,b4,ln,e0,bw];generalize hL:bf _ _ _ _=L;obtain⟨t1,s1,rfl,z1,z2⟩:=dy hL 0 ds.length
  (fun i t s'=>ab t 0=.f (.yield l) [] []/\ab t 1=.p r4 0/\ab t 3=.i .i64 ((ds.length:Int)-1-i)/\vN s' l r4 r3 cr mr v tq (mL (ds.drop (ds.length-i)))/\Kp [mr,l] [] s s')
  (fun t s'=>vN s' l r4 r3 cr mr v tq (mL ds)/\Kp [mr,l] [] s s') (by omega)
  ⟨by simp,by simp,by simp,by grind,.refl _ _ _⟩
  (by
   rintro i t s' hi ⟨i0,i1,i3,iO,iK⟩;obtain⟨m,hm⟩:∃ m,ds.length-i=m+1:=⟨ds.length-i-1,by omega⟩;have hmd:m<ds.length:=by omega
   have e1:(ds.length:Int)-1-(i:Int)=(m:Int):=by omega
   rw[e1]at i3;have e4:wr .i64 ((m:Int)-1)=(m:Int)-1:=aZ (by omega) (by omega);obtain⟨q,ix⟩:=yp hv hmd;have ld:=fun st:St=>AA (st:=st) ds[m] q
   obtain⟨x4,d4⟩:=iO.c4;have b4':rd s' r4 0 1=some [v]:=by rw[au d4];rfl
   obtain⟨s2,r1,r2,r3'⟩:=Wh (c:=c) iO h3 ds[m] (m:Int) (N:=N) (by omega);simp[i0,i1,i3,b4',ix,ld,r1,e4];refine⟨_,_,⟨rfl,rfl⟩,by simp[i0],by simp[i1],by simp;omega,?_,iK.trans r3'⟩;rw[show ds.length-(i+1)=m by omega,List.drop_eq_getElem_cons hmd];rw[hm]at r2;exact r2)
  (by
   rintro t s' ⟨i0,i1,i3,iO,iK⟩;have e1:¬ (ds.length:Int)<=(ds.length:Int)-1:=by omega
   simp[i3,e1];exact⟨_,_,⟨rfl,rfl⟩,by simpa using iO,iK⟩)
 simp_all[aG,aF]
theorem TW{s':St}{vs:List AV}(h:wt s r o vs=some s'):s'.next=s.next:=by grind[wt,fo]
theorem Zk:bm prog 80=some [.mn,.i .i64 0]:=by kernel_rfl
theorem RK:bm prog 67=some [.pn]:=by kernel_rfl
@[simp] theorem Uo:bp prog 67=true:=by kernel_rfl
@[simp] theorem Rc:et prog 67=false:=by kernel_rfl
theorem Vw:aD prog 67=1:=by kernel_rfl
theorem WX:fu prog 80=true:=by kernel_rfl
theorem Zi:∃ fs,prog.underlying 80=some (.struct fs)/\gM prog fs 0=some (0,1):=⟨_,underlying80,by kernel_rfl⟩
theorem ZG{x:Operand}(hx:ai t x=.m r):bH (.build 80 #[(0,x)]) prog S t st=some (.ag [.m r,.i .i64 0],st):=by
 obtain⟨fs,h1,h2⟩:=Zi;show @Bool.rec (fun _=>aR) none (df prog 80 [(0,ai t x)] st) (fu prog 80)=_
 rw[WX,hx];show df prog 80 [(0,.m r)] st=_
 unfold df;rw[h1];simp only[Zk,jg,fill,h2,QF];rfl
def Pj(o:Option (AV× St))(st:St)(ds:List cK):Prop:=∃ st' cr mr,o=some (.p cr 0,st')/\Ck st' cr mr 0 (mL ds)/\Kp [] [] st st'/\st.next<=cr/\st.next<=mr
theorem TJ{bv:AV}{ds:List cK}(hv:iq cv ds)(hc:cv.cells=some [cv])(hl:ds.length<=1000000)(hN:10000000000000000020<=N):Pj ((Tw c N).call 31 [.ag [cv,bv]] st) st ds:=by
 obtain⟨N,rfl⟩:∃ N',N=N'+1:=⟨N-1,by omega⟩;rw[dt rfl func31 rfl (Q1 rfl)];unfold aV;show Pj (eE prog f31.results.toList (bT (ao (aq nr) ⟨prog,Tw c N,false,f31.ntmps,N⟩ (tmpsOf [.ag [cv,bv]] 0 .lf) st) (fun t s=>bT (ao (aq (aj nr)) ⟨prog,Tw c N,false,f31.ntmps,N⟩ t s)
  (fun t s=>bT (bT (ao (aq (aq (aj (aj nr)))) ⟨prog,Tw c N,false,f31.ntmps,N⟩ t s) (fun t s=>qk 0 (rh ⟨prog,Tw c N,false,f31.ntmps,N⟩ #[12,13] oD nK t s (ai t (.tmp 11))))) (ao (aj (aj (aj nr))) ⟨prog,Tw c N,false,f31.ntmps,N⟩))))) st ds
 have c0:=cz (st:=st) [cv,bv];have k0:=Kp.aw (st:=st) [] [] [cv,bv];have n0:(st.aw [cv,bv]).next=st.next+1:=rfl;obtain⟨s0,hs0⟩:∃ s,st.aw [cv,bv]=s:=⟨_,rfl⟩;rw[hs0]at c0 k0 n0;have a0:∃ t,ao (aq nr) ⟨prog,Tw c N,false,f31.ntmps,N⟩ (tmpsOf [.ag [cv,bv]] 0 .lf) st=.nx t s0/\ab t 1=.p st.next 0:=by simp[nr,aq,f31,hs0]
 obtain⟨t1,a0,p1⟩:=a0;have m1:=cS.new s0;have k1:=Kp.new (st:=s0) [] [] (.mp [] 0);have n1:(s0.new (.mp [] 0)).next=st.next+2:=by show s0.next+1=_;omega
 obtain⟨s1,hs1⟩:∃ s,s0.new (.mp [] 0)=s:=⟨_,rfl⟩;rw[hs1]at m1 k1 n1;rw[n0]at m1;have c2:=cz (st:=s1) [.m (st.next+1),.i .i64 0];have k2:=Kp.aw (st:=s1) [] [] [.m (st.next+1),.i .i64 0];have n2:(s1.aw [.m (st.next+1),.i .i64 0]).next=st.next+3:=by show s1.next+1=_;omega
 obtain⟨s2,hs2⟩:∃ s,s1.aw [.m (st.next+1),.i .i64 0]=s:=⟨_,rfl⟩;rw[hs2]at c2 k2 n2;rw[n1]at c2;obtain⟨s3,w1,w2,w3,w4⟩:=cO (s:=s2) (z:=[.pn]) (cells:=[.p (st.next+2) 0]) rfl rfl;have n3:s3.next=st.next+4:=by have:=TW w1;rw[this];show s2.next+1=_;omega
 rw[n2]at w1 w2;have a1:∃ t,ao (aq (aj nr)) ⟨prog,Tw c N,false,f31.ntmps,N⟩ t1 s0=.nx t s3/\ab t 1=.p st.next 0/\ab t 3=.p (st.next+3) 0:=by
  have bo:=fun(t:Tr AV) (q:ai t (.tmp 6)=.m (st.next+1))=>ZG (st:=s1) (S:=Tw c N) (t:=t) q
  simp[nr,aq,aj,f31,n0,hs1,bo,n1,hs2,aJ,RK,n2,db Uo Vw,w1,p1]
 obtain⟨t2,a1,q1,q3⟩:=a1;have kk:Kp [] [] s0 s3:=(k1.trans k2).trans w3;have c0':=kk.ce c0 (by omega) (by omega) (by simp) (by simp);have b0:rd s3 st.next 0 1=some [cv]:=by rw[au c0'];rfl
 have bk:=Ue (c:=c) (st:=s3) hc (N:=N) (by omega);have c4:=cz (st:=s3) [cv];have k4:=Kp.aw (st:=s3) [] [] [cv];have n4:(s3.aw [cv]).next=st.next+5:=by show s3.next+1=_;omega
 obtain⟨s4,hs4⟩:∃ s,s3.aw [cv]=s:=⟨_,rfl⟩;rw[hs4]at c4 k4 n4 bk;rw[n3]at c4 bk;have a2:∃ t,ao (aq (aq (aj (aj nr)))) ⟨prog,Tw c N,false,f31.ntmps,N⟩ t2 s3=.nx t s4/\ab t 3=.p (st.next+3) 0/\ai t (.tmp 11)=.f (.func 102) [] [.p (st.next+4) 0]:=by simp[nr,aq,aj,f31,q1,q3,b0,bk]
 obtain⟨t3,a2,r3,r11⟩:=a2;have k5:=Kp.new (st:=s4) [] [] (.lp t3 22 [12,13] oD nK);have n5:(s4.new (.lp t3 22 [12,13] oD nK)).next=st.next+6:=by show s4.next+1=_;omega
 have g5:(s4.new (.lp t3 22 [12,13] oD nK)).get (st.next+5)=some (.lp t3 22 [12,13] oD nK):=by rw[St.pP,if_pos n4.symm]
 obtain⟨s5,hs5⟩:∃ s,s4.new (.lp t3 22 [12,13] oD nK)=s:=⟨_,rfl⟩;rw[hs5]at k5 n5 g5;have w2':=(k4.trans k5).ce w2 (by omega) (by omega) (by simp) (by simp);have c2':=((w3.trans k4).trans k5).ce c2 (by omega) (by omega) (by simp) (by simp);have c4':=k5.ce c4 (by omega) (by omega) (by simp) (by simp);have m5:=m1.keep (((k2.trans w3).trans k4).trans k5) (by omega) (by simp);have O5:vN s5 (st.next+5) (st.next+4) (st.next+3) (st.next+2) (st.next+1) cv t3 (mL []):=⟨g5,by omega,⟨_,c4'⟩,⟨_,w2'⟩,⟨_,c2'⟩,m5,by omega,by omega⟩;obtain⟨s6,x1,x2,x3⟩:=Sa (c:=c) hv hl O5 r3 (N:=N) (by omega);have hr:rh ⟨prog,Tw c N,false,f31.ntmps,N⟩ #[12,13] oD nK t3 s4 (.f (.func 102) [] [.p (st.next+4) 0])=.nx t3 (s6.drop (st.next+5)):=by
  show(match qA prog (Tw c N) 102 ([]++([.f (.yield s4.next) [] []]++[.p (st.next+4) 0])) (s4.new (.lp t3 22 [12,13] oD nK)) with
   |some (_,st')=>AD t3 st' s4.next (st'.get s4.next)
   |none=>.no)=_
  rw[hs5,n4];have hcf:qA prog (Tw c N) 102 ([]++([.f (.yield (st.next+5)) [] []]++[.p (st.next+4) 0])) s5=some (.tu [],s6):=by unfold qA;rw[func102];exact x1
  rw[hcf];show AD t3 s6 (st.next+5) (s6.get (st.next+5))=_
  rw[x2.row];rfl
 rw[a0,dK,a1,dK,a2,dK,r11,hr];obtain⟨y3,c3f⟩:=x2.c3;have kd:=Kp.drop (st:=s6) (A:=[st.next+5]) (B:=[]) (r:=st.next+5) (by simp);have c3d:=kd.ce c3f (by have:=x2.ll;omega) (by have:=x2.ll;omega) (by simp) (by simp);obtain⟨yc,ccf⟩:=x2.cc;have ccd:=kd.ce ccf (by have:=x2.ll;omega) (by have:=x2.ll;omega) (by simp) (by simp);have md:=x2.mp.keep kd (by have:=x2.ll;omega) (by simp);have hll:=x2.ll;have hnx:st.next+5<(s6.drop (st.next+5)).next:=hll;have b3:rd (s6.drop (st.next+5)) (st.next+3) 0 1=some [.p (st.next+2) 0]:=by rw[au c3d];rfl
 refine⟨s6.drop (st.next+5),st.next+2,st.next+1,?_,⟨⟨_,ccd⟩,by omega,by omega,by omega,md,.inl rfl⟩,?_,by omega,by omega⟩
 ·simp[nr,aj,f31,r3,b3,aG,aF]
 ·have h1:Kp [] [] st s5:=(k0.trans kk).trans (k4.trans k5);have h2:=dz h1 x3 (fun x hx=>by simp at hx;omega) (by simp);exact dz h2 kd (fun x hx=>by simp at hx;omega) (by simp)
def uO(N:Nat)(cv:AV)(ds:List cK)(b:ae):Prop :=
 (Tw none N).call 33 [cv] aK=some (.b true,aK)/\eS b.names=true/\vr b.names 0/\eI (mL ds) b [b.names]=true/\[109,97,105,110]∈b.names
def Rf(st s:St)(r0 cr mr:Nat)(w:Int)(C:ah->Option AV)(cv bv:AV)(b:ae)(i:Nat):Prop :=
 (∃ al,s.ce r0=some ([cv,bv],r0,al))/\Kp [cr] [cr] st s/\∃ w',Ck s cr mr w' C/\(w'=0↔w=0/\∀ j,j<i->xK C [b.names] b j)
noncomputable def ox:Code:=f9.body.getD .skip
noncomputable def EC:Code:=aj (aj (aj (aj (aj (aj ox)))))
def S8(o:Option (AV× St))(w:Int)(C:ah->Option AV)(b:ae):Prop:=∃ e:Int,tW o (.i .i64 e)/\(e=0↔w=0/\(eI C b [b.names]=true/\[109,97,105,110]∈b.names))
theorem Xb(hb:b.Ty 1)(hs:b.size<=1000000)(hC:zt C){r0:Nat}{w:Int}{lv:AV}(t1:ab t 1=.p r0 0)(t3:ab t 3=.p cr 0)(t4:ab t 4=lv)(b2:de lv (b.names.map .s))
  {al:List Nat} (c3:s.ce r0=some ([cv,b.slice 8],r0,al)) (l3:r0<s.next) (r0n:r0≠cr) (hk:Ck s cr mr w C) (hN:2*b.size+10000000000000000100<=N):
  S8 (eE prog f9.results.toList (ao EC ⟨prog,Tw none N,false,f9.ntmps,N⟩ t s)) w C b:=by
 have hbl:=b.bZ;have lb:=fun st:St=>aY (st:=st) underlying23 (b.bK 8) (b.bJ 8)
 have hnl:b.names.length<=9223372036854775807:=by rw[eW];omega
 have ncr:r0∉[cr]:=by grind
 have lbv:∀ {s:St} {al:List Nat},s.ce r0=some ([cv,b.slice 8],r0,al)->rd s r0 1 1=some [b.slice 8]:=fun h=>by rw[au h];rfl
 have lbv3:=lbv c3;simp[EC,ox,aj,f9,t1,lbv3,lb,bw];generalize hL:bf _ _ _ _=L;obtain⟨t5,s5,rfl,p3,p4,⟨a5,c5⟩,k5,w5,C5,g5⟩:=dy hL 0 b.list.length
  (fun i t s'=>ab t 1=.p r0 0/\ab t 3=.p cr 0/\ab t 4=lv/\ab t 31=.i .i64 (b.len:Int)/\ab t 32=.i .i64 (i:Int)/\Rf s s' r0 cr mr w C cv (b.slice 8) b i)
  (fun t s'=>ab t 3=.p cr 0/\ab t 4=lv/\Rf s s' r0 cr mr w C cv (b.slice 8) b b.list.length) (by rw[<-ae.aC];omega)
  ⟨by simp_all,by simp_all,by simp_all,by simp,by simp,⟨_,c3⟩,.refl _ _ _,w,hk,by simp⟩
  (by
   rintro i t s' hi ⟨i1,i3,i4,i31,i32,⟨a',c'⟩,iK,w',iC,iG⟩;clear hL;have hil:i<b.len:=by rw[ae.aC];exact hi
   have e5:(i:Int)<(b.len:Int):=by omega
   have e7:wr .i64 ((i:Int)+1)=((i+1:Nat):Int):=by rw[aZ (by omega) (by omega)];rfl
   obtain⟨q,q1,q2⟩:=eR hb.pre (show eD 1+7=8 from rfl) hi;have ix:=dV underlying23 dn cV b.flat b.len i hil;rw[<-ae.cZ hil,q1]at ix;have hmem:=Q7 hi;have hTi:=ae.cU hb _ hmem;have hsz':=ae.dU hmem;have hpr1:aQ q=true:=wM hb hi q1 q2;have hd:(b.list[i].1++(b.list[i].2.cells++q)).drop 1=b.list[i].2.cells++q:=by have q2':b.list[i].1.length=1:=q2;rw[Q9,q2'];simp[q2',J1]
   have bcs:=lbv c';have bo:=fun(t:Tr AV) (q1:ai t (.tmp 41)=lv)=>wy (st:=s') (S:=Tw none N) q1 (RO t) (qD b2) (by simp)
   have nf:=(jj.pn).new b2 hnl iC.crl;have kn:=Kp.aw (st:=s') [cr] [cr] [lv,.pn];have nk:=iC.keep (Kp.aw [] [] [lv,.pn]) (by simp) (by simp) (by simp);obtain⟨s6,w6,x1,x2,x3,x4⟩:=Wa (c:=none) _ hTi.2 (by omega) (s'.aw [lv,.pn]) cr mr w' C [b.names] (.p s'.next 0) q N hC nk nf hpr1 (by simp;omega);simp[i1,i3,i4,i31,i32,e5,e7,bcs,ix,hd,bo,x1];have kk:=kn.trans x3;refine⟨_,_,⟨rfl,rfl⟩,by simp[i1],by simp[i3],by simp[i4],by simp[i31],by simp,⟨_,kk.ce c' (Q0 l3 iK.next) (Q0 l3 iK.next) ncr ncr⟩,iK.trans kk,w6,x2,?_⟩;rw[x4,iG,all_succ,and_assoc];exact and_congr Iff.rfl (and_congr Iff.rfl ⟨fun h _=>h,fun h=>h hi⟩))
  (by rintro t s' ⟨i1,i3,i4,i31,i32,iA⟩;clear hL;simp[i31,i32,ae.aC];exact⟨_,_,⟨rfl,rfl⟩,by simp[i3],by simp[i4],iA⟩)
 clear hL;rw[Ho]at g5;obtain⟨a6,cc5⟩:=C5.ce;have hw:rd s5 cr 1 1=some [.i .i64 w5]:=by rw[au cc5];rfl
 have ct:=Hp (c:=none) (st:=s5) [109,97,105,110] b2 hnl (N:=N) (by omega);by_cases h0:w5=0
 ·subst h0;have gg:=g5.1 rfl;by_cases hm:[109,97,105,110]∈b.names
  ·refine⟨0,?_,fun _=>⟨gg.1,gg.2,hm⟩,fun _=>rfl⟩;simp[p3,p4,hw,ct,hm,aG,aF]
  ·refine⟨10,?_,fun h=>(by cases h),fun h=>absurd h.2.2 hm⟩;simp[p3,p4,hw,ct,hm,aG,aF]
 ·refine⟨w5,?_,fun h=>absurd h h0,fun h=>absurd (g5.2 ⟨h.1,h.2.1⟩) h0⟩;simp[p3,hw,h0,aG,aF]
def Pn(o:Option (AV× St))(N:Nat)(cv:AV)(ds:List cK)(b:ae):Prop:=∃ e:Int,tW o (.i .i64 e)/\(nN b=false->e=3)/\(nN b=true->(e=0↔uO N cv ds b))
theorem RI{ds:List cK}(hv:iq cv ds)(hl:ds.length<=1000000)(hb:b.Ty 1)(hs:b.size<=1000000)(hN:2*b.size+10000000000000000100<=N):
  Pn (aV none N f9 (f9.body.getD .skip) [.ag [cv,b.slice 8]] aK) N cv ds b:=by
 unfold aV;have hbl:=b.bZ;have hcc:cv.cells=some [cv]:=by rcases hv.1 with ⟨rfl,-⟩|rfl<;>simp
 have hcs:bS cv=true:=by rcases hv.1 with ⟨rfl,-⟩|rfl<;>rfl
 have c0:=cz (st:=aK) [cv,b.slice 8];have k0:aK.next<(aK.aw [cv,b.slice 8]).next:=Q2 _;obtain⟨r0,hr0⟩:∃ r,aK.next=r:=⟨_,rfl⟩;obtain⟨s0,hs0⟩:∃ s,aK.aw [cv,b.slice 8]=s:=⟨_,rfl⟩;rw[hr0,hs0]at c0 k0;have lall:∀ {s:St} {al:List Nat},s.ce r0=some ([cv,b.slice 8],r0,al)->loadAt prog 25 s (.p r0 0)=some (.ag [cv,b.slice 8]):=fun h=>by rw[lS lI An,eP,au h];rfl
 have lcv:∀ {s:St} {al:List Nat},s.ce r0=some ([cv,b.slice 8],r0,al)->rd s r0 0 1=some [cv]:=fun h=>by rw[au h];rfl
 have lbv:∀ {s:St} {al:List Nat},s.ce r0=some ([cv,b.slice 8],r0,al)->rd s r0 1 1=some [b.slice 8]:=fun h=>by rw[au h];rfl
 have la0:=lall c0;have lg:=UY (c:=none) (st:=s0) hv.pure hcs hb hs (N:=N) (by omega);cases hf:nN b with
 |false =>rw[hf]at lg;refine⟨3,?_,fun _=>rfl,fun h=>by grind⟩;simp[f9,hr0,hs0,la0,lg,aG,aF]
 |true =>
  rw[hf]at lg;obtain⟨s1,cr,mr,o1,oC,oK,ocr,omr⟩:=TJ (c:=none) (bv:=b.slice 8) hv hcc hl (N:=N) (by omega);have c1:=oK.ce c0 k0 k0 (by simp) (by simp);obtain⟨fb,hfb⟩:=Tn (c:=none) hv hl (N:=N) (by omega);obtain⟨s2,w2,y1,y2,y3,y4⟩:=mj (c:=none) (!fb) oC (by right;right;right;rfl) (by decide) (N:=N) (by omega);have ncr:r0∉[cr]:=by simp;omega
  have c2:=y3.ce c1 (Q0 k0 oK.next) (Q0 k0 oK.next) ncr ncr;have l2:r0<s2.next:=Q0 (Q0 k0 oK.next) y3.next;obtain⟨lv,b1,b2⟩:=Gp (c:=none) (st:=s2) hb (by omega) (N:=N) (by omega);have hnl:b.names.length<=9223372036854775807:=by rw[eW];omega
  have nm:=fun st:St=>CR (c:=none) (st:=st) b2 hnl (N:=N) (by omega)
  obtain⟨sb,sb1,sb2⟩:=acx (c:=none) b2 hnl (N:=N) (by omega);have lcv1:=lcv c1;have lbv2:=lbv c2;obtain⟨s3,w3,z1,z2,z3,z4⟩:=mj (c:=none) (!(eS b.names&&sb)) y2 (by right;right;right;rfl) (by decide) (N:=N) (by omega);have c3:=z3.ce c2 l2 l2 ncr ncr;have l3:r0<s3.next:=Q0 l2 z3.next;have lbv3:=lbv c3;have g3:w3=0↔fb=true/\(eS b.names=true/\sb=true):=by rw[z4,y4];cases fb<;>cases eS b.names<;>cases sb<;>simp
  have hd:∃ t,ao ox ⟨prog,Tw none N,false,f9.ntmps,N⟩ (tmpsOf [.ag [cv,b.slice 8]] 0 .lf) aK=ao EC ⟨prog,Tw none N,false,f9.ntmps,N⟩ t s3/\ab t 1=.p r0 0/\ab t 3=.p cr 0/\ab t 4=lv:=by
   rw[show ao ox ⟨prog,Tw none N,false,f9.ntmps,N⟩ (tmpsOf [.ag [cv,b.slice 8]] 0 .lf) aK=bT (ao (aq ox) ⟨prog,Tw none N,false,f9.ntmps,N⟩ (tmpsOf [.ag [cv,b.slice 8]] 0 .lf) aK) (fun t s=>bT (ao (aq (aj ox)) ⟨prog,Tw none N,false,f9.ntmps,N⟩ t s)
    (fun t s=>bT (ao (aq (aj (aj ox))) ⟨prog,Tw none N,false,f9.ntmps,N⟩ t s) (fun t s=>bT (ao (aq (aj (aj (aj ox)))) ⟨prog,Tw none N,false,f9.ntmps,N⟩ t s)
    (fun t s=>bT (ao (aq (aj (aj (aj (aj ox))))) ⟨prog,Tw none N,false,f9.ntmps,N⟩ t s) (fun t s=>bT (ao (aq (aj (aj (aj (aj (aj ox)))))) ⟨prog,Tw none N,false,f9.ntmps,N⟩ t s) (ao EC ⟨prog,Tw none N,false,f9.ntmps,N⟩)))))) from rfl]
   cases hn:eS b.names with
   |false =>rw[hn]at z1;simp only[Bool.false_and,Bool.not_false]at z1;simp[ox,aq,aj,f9,hr0,hs0,la0,lg,o1,lcv1,hfb,y1,lbv2,b1,nm,hn,z1];exact⟨_,rfl,by simp,by simp,by simp⟩
   |true =>rw[hn]at z1;simp only[Bool.true_and]at z1;simp[ox,aq,aj,f9,hr0,hs0,la0,lg,o1,lcv1,hfb,y1,lbv2,b1,nm,hn,sb1,z1];exact⟨_,rfl,by simp,by simp,by simp⟩
  obtain⟨t,hd,t1,t3,t4⟩:=hd;show Pn (eE prog f9.results.toList (ao ox ⟨prog,Tw none N,false,f9.ntmps,N⟩ (tmpsOf [.ag [cv,b.slice 8]] 0 .lf) aK)) N cv ds b
  rw[hd];have r0n:r0≠cr:=by simpa using ncr
  obtain⟨e,e1,e2⟩:=Xb (cv:=cv) hb hs (OT ds) t1 t3 t4 b2 c3 l3 r0n z2 hN;refine⟨e,e1,fun h=>(by rw[hf]at h;cases h),fun _=>?_⟩;rw[e2,g3];have hfn:fb=true↔(Tw none N).call 33 [cv] aK=some (.b true,aK):=by rw[hfb aK];simp
  unfold uO;rw[hfn,sb2,and_assoc,and_assoc]
def KQ(l:ah):Nat:=l.foldl (fun a b=>a*10+(b-48)) 0
theorem aaD(h:k<10):(UInt8.ofNat (48+k)).toNat=48+k:=by simp only[UInt8.toNat_ofNat'];omega
theorem Hh:∀ u:Nat,KQ ((Q8 u).map UInt8.toNat)=u/\∀ b,b∈(Q8 u).map UInt8.toNat->48<=b/\b<=57:=by
 intro u;induction u using Nat.strongRecOn with
 |ind u ih =>grind[Q8,aaD,KQ]
theorem IB(n:Nat):ja n=(Q8 n).map UInt8.toNat:=by grind[ja,Lib.itoa]
def dE(m:Nat):ah:=[126,112]++ja m
theorem AI{a b:Nat}(h:dE a=dE b):a=b:=by have h1:ja a=ja b:=List.append_cancel_left h;grind[IB,Hh]
theorem Cn(h:m<9223372036854775808):(ja m).length<=21:=by grind[ja,Lib.itoa_length_le]
theorem Hi(h:m<9223372036854775808):named (dE m)=true:=by grind[Cn,named,dE,IB,Hh]
section
variable(T : List ah)
open Classical in
def mu(n:Nat):Nat:=(T.filter fun s=>decide (∃ m,n<m/\s=dE m)).length
def rq:Nat->Nat->Nat
 |0,n=>n+1
 |k+1,n=>if dE (n+1)∈T then rq k (n+1) else n+1
def bD(n:Nat):Nat:=rq T T.length n
theorem filter_le{α:Type}{p q:α->Bool}(h:∀ x,p x=true->q x=true):∀ {l:List α},(l.filter p).length<=(l.filter q).length
 |[]=>Nat.le_refl _
 |z::l=>by have ih:=filter_le h (l:=l);grind
theorem filter_lt{α:Type}{p q:α->Bool}:∀ {l:List α},(∀ x,p x=true->q x=true)->(∃ x,x∈l/\q x=true/\p x=false)->(l.filter p).length<(l.filter q).length
 |[],_,⟨x,h,_⟩=>by grind
 |y::l,h,⟨x,hx,h1,h2⟩=>by
  have le:=fun l:List α=>filter_le h (l:=l)
  rcases List.mem_cons.1 hx with rfl|hx
  ·grind
  ·have ih:=filter_lt h ⟨x,hx,h1,h2⟩;grind
open Classical in
theorem OO(h:dE (n+1)∈T):mu T (n+1)<mu T n:=by
 refine filter_lt (fun x hx=>?_) ⟨_,h,?_,?_⟩
 ·obtain⟨m,h1,h2⟩:=of_decide_eq_true hx;exact decide_eq_true ⟨m,by omega,h2⟩
 ·exact decide_eq_true ⟨n+1,by omega,rfl⟩
 ·refine decide_eq_false ?_;rintro⟨m,h1,h2⟩;have:=AI h2;omega
open Classical in
theorem Qm:mu T (n+1)<=mu T n:=by
 refine filter_le fun x hx=>?_
 grind
theorem yC:∀ (k n:Nat),mu T n<=k->dE (rq T k n)∉T/\n<rq T k n/\(∀ m,n<m->m<rq T k n->dE m∈T)/\rq T k n+mu T (rq T k n)<=n+mu T n+1
 |0,n,h=>by grind[OO,Qm,rq]
 |k+1,n,h=>by
  unfold rq;by_cases hh:dE (n+1)∈T
  ·have hl:=OO T hh;obtain⟨h1,h2,h3,h4⟩:=yC k (n+1) (by omega);grind
  grind[Qm]
theorem tY:mu T n<=T.length:=List.length_filter_le _ _
theorem AJ(n:Nat):dE (bD T n)∉T:=(yC T _ n (tY T)).1
theorem sW(n:Nat):n<bD T n:=(yC T _ n (tY T)).2.1
theorem Gr(n:Nat):∀ m,n<m->m<bD T n->dE m∈T:=(yC T _ n (tY T)).2.2.1
def bG(n:Nat):Nat:=n+mu T n
theorem wJ(n:Nat):bG T (bD T n)<=bG T n+1:=(yC T _ n (tY T)).2.2.2
theorem oM(n:Nat):n<=bG T n:=Nat.le_add_right _ _
abbrev bL:=ah->Option ah
def sT(S:bL)(x y:ah):bL:=fun z=>if z=x then some y else S z
def aU(S:bL):List ah->Nat->bL× List ah× Nat
 |[],n=>(S,[],n)
 |x::l,n=>let r:=aU (sT S x (dE (bD T n))) l (bD T n);(r.1,dE (bD T n)::r.2.1,r.2.2)
def cG:List ah->AV
 |[]=>.sn
 |s::l=>.rs ((s::l).map .s) (l.length+1) 1
def cf(s:ah):Ex:=.mk 1 s 0 .sn (.nil true) (.nil true) (.nil true)
def kN(late:ae)(out:Ex):Ex:=match late with
 |.nil _=>out
 |.cons p x l=>.mk 7 [] 0 .sn (.cons p x l) (.cons [] out (.nil true)) (.nil true)
mutual
def bB:Ex->bL->Nat->Ex× Nat
 |.mk k nm num ps b a l,S,n =>
  if k=1 then(.mk 1 ((S nm).getD nm) num .sn (.nil true) (.nil true) (.nil true),n) else
  let w1:=aU T S (ba ps) n
  let w2:=aU T w1.1 b.names w1.2.2
  let rb:=c8 b w2.1 w2.2.1 w2.2.2
  let ra:=cg a w2.1 (fP strF k nm a.len) 0 rb.2
  let rl:=dP l w2.1 ra.2.2
  (kN ra.2.1 (.mk k nm num (cG w1.2.1) rb.1 ra.1 rl.1),rl.2)
def c8:ae->bL->List ah->Nat->ae× Nat
 |.nil _,_,_,n=>(.nil true,n)
 |.cons _ x l,S,ns,n=>let r:=bB x S n;let q:=c8 l S ns.tail r.2;(.cons [.s (ns.headD [])] r.1 q.1,q.2)
def cg:ae->bL->Int->Nat->Nat->ae× ae× Nat
 |.nil _,_,_,_,n=>(.nil true,.nil true,n)
 |.cons _ x l,S,k,i,n =>
  let r:=bB x S n
  if k<=(i:Int)/\r.1.atom=false then
   let q:=cg l S k (i+1) (bD T r.2)
   (.cons [] (cf (dE (bD T r.2))) q.1,.cons [.s (dE (bD T r.2))] r.1 q.2.1,q.2.2)
  else
   let q:=cg l S k (i+1) r.2
   (.cons [] r.1 q.1,q.2.1,q.2.2)
def dP:ae->bL->Nat->ae× Nat
 |.nil _,_,n=>(.nil true,n)
 |.cons p x l,S,n =>
  let w:=aU T S (cD (p,x)).vs n
  let r:=bB x w.1 w.2.2
  let q:=dP l S r.2
  (.cons [.i .i64 (cD (p,x)).k,.s (cD (p,x)).n,.i .i64 (cD (p,x)).m,cG w.2.1] r.1 q.1,q.2)
end
end
def aX:List (List AV× Ex)->ae
 |[]=>.nil true
 |p::L=>.cons p.1 p.2 (aX L)
theorem fC:∀ L:List (List AV× Ex),(aX L).list=L
 |[]=>rfl
 |p::L=>by simp[aX,ae.list,fC L]
def dm:ae->Nat->ae
 |l,0=>l
 |.nil f,_+1=>.nil f
 |.cons _ _ l,i+1=>dm l i
theorem vV:∀ (l:ae) (i:Nat) (h:i<l.list.length),dm l i=.cons l.list[i].1 l.list[i].2 (dm l (i+1))
 |.nil f,i,h=>by simp[ae.list]at h
 |.cons p x l,0,h=>by simp[dm,ae.list]
 |.cons p x l,i+1,h=>by have:=vV l i (by simpa[ae.list]using h);simpa[dm,ae.list]using this
theorem tK:∀ (l:ae),∃ f,dm l l.list.length=.nil f
 |.nil f=>⟨f,by simp[dm,ae.list]⟩
 |.cons p x l=>by obtain⟨f,h⟩:=tK l;grind[dm,ae.list]
def mR:List (List AV× Ex)->ae->ae
 |[],m=>m
 |p::L,m=>.cons p.1 p.2 (mR L m)
theorem vF:∀ (L M:List (List AV× Ex)) (m:ae),mR (L++M) m=mR L (mR M m)
 |[],M,m=>rfl
 |p::L,M,m=>by simp[mR,vF L M m]
theorem BI:∀ L:List (List AV× Ex),mR L (.nil true)=aX L
 |[]=>rfl
 |p::L=>by simp[mR,aX,BI L]
theorem HT{ty:TypeId}{k:Bool}{x y:ah}(h:x.length+y.length<=9223372036854775807):Go.Ev.binOp P ty k .add (.s x) (.s y)=some (.s (x++y)):=by
 show @Bool.rec (fun _=>Option AV) none (some (.s (x++y))) (Nat.ble (x.length+y.length) 9223372036854775807)=_
 rw[Nat.ble_eq_true_of_le h]
structure Mk(st:St)(mr tr:Nat)(T:List ah)(n:Nat):Prop where
 ce:∃ al,st.ce mr=some ([.m tr,.i .i64 (n:Int)],mr,al)
 mrl:mr<st.next
 trl:tr<st.next
 ne:mr≠tr
 mp:∃ F,cS st tr F/\∀ j,n<j->(F (dE j)).getD (.b false)=.b (decide (dE j∈T))
 tab:mI st
 z1:mr≠0
 z2:tr≠0
theorem Mk.keep{mr tr n:Nat}{T:List ah}{A B:List Nat}{st':St}(h:Mk st mr tr T n)(k:Kp A B st st')(h1:mr∉A)(h2:tr∉A)(h3:mr∉B)(h0:0∉A):Mk st' mr tr T n:=by obtain⟨al,hc⟩:=h.ce;obtain⟨F,hF,hj⟩:=h.mp;obtain⟨t,ht⟩:=h.tab;exact⟨⟨al,k.ce hc h.mrl h.mrl h1 h3⟩,Q0 h.mrl k.next,Q0 h.trl k.next,h.ne,⟨F,hF.keep k h.trl h2,hj⟩,⟨t,by rw[k.get 0 (by have:=h.mrl;omega) h0];grind⟩,h.z1,h.z2⟩
def acA(o:Option (AV× St))(st:St)(mr tr:Nat)(T:List ah)(n:Nat):Prop:=∃ st',o=some (.s (dE (bD T n)),st')/\Mk st' mr tr T (bD T n)/\Kp [mr,tr] [mr] st st'
theorem Rx(h:Mk st mr tr T n)(hm:∀ j,m<j->n<j):Mk (st.ax mr [.m tr,.i .i64 (m:Int)] mr) mr tr T m:=by obtain⟨F,hF,hj⟩:=h.mp;obtain⟨t,ht⟩:=h.tab;obtain⟨es,k,h1,h2⟩:=hF;exact⟨⟨_,cj _ _ _⟩,h.mrl,h.trl,h.ne,⟨F,⟨es,k,by rw[AH h.ne.symm];grind,h2⟩,fun j hh=>hj j (hm j hh)⟩,⟨t,by rw[AH (Ne.symm h.z1)];grind⟩,h.z1,h.z2⟩
theorem Hl(h:Mk st mr tr T n)(hb:bD T n<1000000)(hN:2000000<=N):
  acA ((Tw c N).call 46 [.p mr 0] st) st mr tr T n:=by
 obtain⟨N,rfl⟩:∃ N',N=N'+1:=⟨N-1,by omega⟩;rw[dt rfl func46 rfl (Q1 rfl)];unfold aV;have hgt:=sW T n;simp[f46,bw];generalize hL:bf _ _ _ _=L;have lr:=fW hL 0 (bD T n-n) (fun i t s=>n+i<bD T n/\ab t 0=.p mr 0/\Mk s mr tr T (n+i)/\Kp [mr,tr] [mr] st s) (fun _ _=>False) (fun t s=>ab t 2=.s (dE (bD T n))/\Mk s mr tr T (bD T n)/\Kp [mr,tr] [mr] st s) (by omega)
  ⟨by omega,by simp,h,.refl _ _ _⟩
  (by
   rintro i t s hi ⟨i1,i2,iM,iK⟩;clear hL;obtain⟨al,hc⟩:=iM.ce;have e1:wr .i64 (((n+i:Nat):Int)+1)=((n+i+1:Nat):Int):=by rw[aZ (by omega) (by omega)];rfl
   have hw:=bP hc 1 [.i .i64 ((n+i+1:Nat):Int)] (by simp) (by simp);have M1:=Rx iM (m:=n+i+1) (fun j hj=>by omega);have K0:Kp [mr] [mr] s (s.ax mr [.m tr,.i .i64 ((n+i+1:Nat):Int)] mr):=.ax (by simp) (by simp);have K1:Kp [mr,tr] [mr] s (s.ax mr [.m tr,.i .i64 ((n+i+1:Nat):Int)] mr):=.ax (by simp) (by simp);simp at hw;obtain⟨s1,hs1⟩:∃ s1,s.ax mr [.m tr,.i .i64 ((n+i+1:Nat):Int)] mr=s1:=⟨_,rfl⟩;rw[hs1]at M1 K1 K0;simp at hs1;obtain⟨al1,hc1⟩:=M1.ce;have it:=FK (c:=c) (n:=N-1) M1.tab (m:=n+i+1) (by omega);rw[show N-1+1=N by omega]at it;have il:=Cn (m:=n+i+1) (by omega);have sa:=fun k=>HT (P:=prog) (ty:=9) (k:=k) (x:=[126,112]) (y:=ja (n+i+1)) (by simp;omega)
   have pn:[126,112]++ja (n+i+1)=dE (n+i+1):=rfl;rw[pn]at sa;obtain⟨F,hF0,hj⟩:=iM.mp;have hF:=hF0.keep K0 iM.trl (by simp[iM.ne.symm]);have lk:=hF.get gW (dE (n+i+1));have rc0:rd s mr 1 1=some [.i .i64 ((n+i:Nat):Int)]:=by rw[au hc];rfl
   have rc1:rd s1 mr 1 1=some [.i .i64 ((n+i+1:Nat):Int)]:=by rw[au hc1];rfl
   have rc2:rd s1 mr 0 1=some [.m tr]:=by rw[au hc1];rfl
   simp at e1 rc0 rc1 it;by_cases hx:n+i+1=bD T n
   ·right;have hnot:=AJ T n;rw[<-hx]at hnot;obtain⟨s2,u1,u2,u3,u4⟩:=hF.set gW (dE (n+i+1)) (.b true);rw[hj (n+i+1) (by omega),decide_eq_false hnot]at lk;simp[i2,rc0,rc1,rc2,e1,db nS ri,hw,hs1,it,sa,lk,u1];rw[hx]at u2|-;have M2:Mk s2 mr tr T (bD T n):=by
     obtain⟨t,ht⟩:=M1.tab;refine⟨⟨al1,?_⟩,by rw[u4];exact M1.mrl,by rw[u4];exact M1.trl,M1.ne,⟨_,u2,fun j hh=>?_⟩,⟨t,by rw[u3.get 0 (by have:=M1.mrl;omega) (by simp[Ne.symm M1.z2])];exact ht⟩,M1.z1,M1.z2⟩
     ·rw[<-hx];exact u3.ce hc1 M1.mrl M1.mrl (by simp[M1.ne]) (by simp)
     ·rw[abb _ _ (fun e=>by have:=AI e; omega)];exact hj j (by omega)
    exact⟨_,_,⟨rfl,rfl⟩,by simp,M2,iK.trans (K1.trans ⟨u3.next,fun r h1 h2=>u3.get r h1 (fun hh=>h2 (by simp at hh;simp[hh])),fun g h1 h2=>u3.live g h1 (by simp)⟩)⟩
   ·left;have hin:=Gr T n (n+i+1) (by omega) (by omega);rw[hj (n+i+1) (by omega),decide_eq_true hin]at lk;simp[i2,rc0,rc1,rc2,e1,db nS ri,hw,hs1,it,sa,lk];exact⟨_,_,⟨rfl,rfl⟩,by omega,by simp[i2],M1,iK.trans K1⟩)
  (by rintro t s ⟨i1,-⟩;omega)
 clear hL;rcases lr with ⟨t1,s1,-,hT⟩|⟨t1,s1,rfl,h1,h2,h3⟩
 ·exact hT.elim
 ·refine⟨s1,?_,h2,h3⟩;simp[h1,aG,aF]
