/- A part of the proof. -/
import Derived.Test.YtnmofhngblebiaaGreatDoorS13
set_option maxRecDepth 100000
open Option renaming some->So,none->No
open Bool renaming true->Tt,false->Ff
open Bool renaming and_eq_true->Q0,and_true->V0,or_eq_true->X5,eq_false_iff->X7,not_eq_true'->Y3
open Nat renaming le_of_ble_eq_true->Q1,zero_le->Q7,lt_of_lt_of_le->Q9,le_trans->J1,lt_succ_self->J5,ble_eq_true_of_le->Z4,mul_one->X8
open List renaming length_map->Q2,getElem_mem->Q3,getElem_map->Q4,mem_append->Q5,eq_nil_of_length_eq_zero->Q6,mem_singleton->Q8,count_append->J3,getElem?_eq_some_iff->J4,map_append->J6,take_append_getElem->J8,take_length->J9,getElem?_eq_getElem->Z0,flatMap_append->Z3,mem_cons_self->Z5,mem_cons_of_mem->Z6,mem_map->Z8,all_cons->Z9,all_nil->K8,flatMap_cons->V1,length_append->V2,nil_append->V3,map_map->V4,length_nil->V6,take_append_drop->V7,append_assoc->V8,map_cons->V9,map_nil->X0,not_mem_nil->X4,length_pos_iff->X6,drop_eq_getElem_cons->X9,take_zero->Y0,getElem_of_mem->Y1,all_eq_true->Y2,getElem?_map->Y4,mem_cons->Y5
open Option renaming map_eq_some_iff->Z7
open Go.Proofs.Tryz
open Go.Proofs.Tryz renaming prog->π
noncomputable section
open Go.Ev
namespace Go.Proofs.YtnmofhngblebiaaGreatDoor
variable {A cs xs ys:List AV}{C:ae->Option AV}{F F' L al:List Nat}{H:List dh}{N br f fr g i most n r r7 rx z:Nat}{S:Self}{a b l:aa}{c:Option Self}{ds:List bG}{fs:List aK}{fv sv sv1 v:AV}{k:bS}{m:Ms}{nm:ae}{o:bC}{p ps:List ae}{s s' s1 st:St}{sc sc':List (List ae)}{t t1:Tr AV}{x:Ex}{α:Type}
theorem He(h:k.Sm)(hf:aE fv=Tt){l:List Rf}(hr:∀r∈l,kz k.gl.length most r)(hl:l.length<=1000000)(hN:3000000<=N):(Tw c N).call 73 [k.p fv,bz l,.i .i64 (most:Int)] st=So (.b Tt,st):=by
 cases N
 ·omega
 rename_i N;have hp:aA [k.p fv,bz l,.i .i64 (most:Int)]=true:=by simp[aA,aE,bS.mh h.ok hf,qd]
 refine eS (X:=[]) rfl rfl (.inr (by decide)) (.pure hp) func73 rfl (Q1 rfl) rfl ?_;unfold aJ;have ln:=oX l;simp[f73,ln,ba];generalize hL:aQ _ _ _ _=L;obtain⟨t1,s1,rfl,-⟩:=cD hL 0 l.length
  (λi t s=>ab t 0=k.p fv/\ab t 2=.i .i64 (most:Int)/\ab t 9=bz l/\ab t 10=.i .i64 (l.length:Int)/\ab t 11=.i .i64 (i:Int)) (λt s=>True) (by omega)
  ⟨by simp,by simp,by simp,by simp,by simp⟩
  (by
   rintro i t s hi ⟨i0,i2,i9,i10,i11⟩;have e3:(i:Int)<(l.length:Int):=by omega
   have e4:wr .i64 ((i:Int)+1)=((i+1:Nat):Int):=by rw[aP (by omega) (by omega)];rfl
   have⟨r,ix⟩:=(tP bI (λ_=>rfl) l).at (P:=π) Ft (k:=i) (by simpa using hi);rw[Q4]at ix;have ix:indexAddr π 40 (bz l) (.i .i64 (i:Int))=So (.rp (bI l[i]++r)):=ix;have ld:=λst:St=>ei ri Lu lO (st:=st) (x:=bI l[i]) (r:=r) rfl
   have⟨s',y1,y2,y3,y4⟩:=bJ (s:=s) (z:=[.i .i64 0,.i .i64 0]) (cells:=bI l[i]) rfl rfl;have sto:=aC ri lO (s.aj [.i .i64 0,.i .i64 0]) s.next 0 (bI l[i]) rfl;have ld2:loadAt π 81 s' (.p s.next 0)=So (.ag (bI l[i])):=by rw[cu ri Lu,lO,ai y2];rfl
   have q:=λst:St=>VA (c:=c) (st:=st) h.ok hf (hr l[i] (Q3 hi)) (N:=N) (by omega)
   generalize bI l[i]=cl at*;simp[i0,i2,i9,i10,i11,e3,e4,ix,ld,aB,ue,sto,y1,ld2,q])
  (by rintro t s ⟨i0,i2,i9,i10,i11⟩;simp[i10,i11])
 clear hL;simp[bf,aO]
theorem Nw(hc:st.ce r=So ([.i .i64 (most:Int)],g,al))(h:n<most)(hN:1<=N):(Tw c N).call 121 [.i .i64 (n:Int),.p r 0] st=So (.b Tt,st):=by
 cases N
 ·omega
 rename_i N;rw[dV rfl func121 rfl (Q1 rfl)];unfold aJ;have r0:rd st r 0 1=So [.i .i64 (most:Int)]:=by rw[ai hc];rfl
 have e:(n:Int)<(most:Int):=by omega
 simp[f121,r0,e]
def oz:Nat->List AV
 |1=>[.b Ff,.b Ff,.b Tt,.b Ff,.b Ff,.b Ff,.b Ff]
 |2=>[.b Tt,.b Ff,.b Tt,.b Ff,.b Ff,.b Ff,.b Ff]
 |3=>[.b Tt,.b Ff,.b Tt,.b Ff,.b Ff,.b Ff,.b Ff]
 |4=>[.b Ff,.b Ff,.b Tt,.b Ff,.b Ff,.b Ff,.b Tt]
 |5=>[.b Ff,.b Ff,.b Ff,.b Ff,.b Tt,.b Ff,.b Tt]
 |6=>[.b Ff,.b Ff,.b Ff,.b Ff,.b Ff,.b Tt,.b Tt]
 |_=>[.b Ff,.b Tt,.b Tt,.b Tt,.b Ff,.b Ff,.b Ff]
theorem Ut{arC:Nat->Option Int}{tyC:Nat->ae}{bos:List dS}(h:kY arC tyC strF arF bos o)(hN:1<=N):(Tw c N).call 117 (.ag o.cells::oz o.k) st=So (.b Tt,st):=by
 cases N
 ·omega
 rename_i N;have hp:aA (.ag o.cells::oz o.k)=true:=by cases h<;>simp[aA,aE,bC.pure,oz]
 have hl:(AV.ag o.cells::oz o.k).length<=f117.ntmps:=by cases h<;>exact Q1 rfl
 refine eS (X:=[]) rfl rfl (.inr (by decide)) (.pure hp) func117 rfl hl rfl ?_;unfold aJ;have c1:=bq (st:=ay) o.cells;obtain⟨s1,hs1⟩:∃s,ay.aj o.cells=s:=⟨_,rfl⟩;rw[hs1]at c1;obtain⟨-,o1,o2,o3,o4,o5,o6,o7,-⟩:=vD c1;cases h<;>simp[f117,oz,hs1,o1,o2,o3,o4,o5,o6,o7,cV,oX,oM,Gt,sZ,iN]
theorem ze{ty e:Nat}{f:α->List AV}(T:iq π ty e z)(ha:cw π e=Tt)(hz:∀x,(f x).length=z)(l:List α)(hi:i<l.length):∃r,indexAddr π ty (eA z (l.flatMap f) l.length) (.i .i64 (i:Int))=So (.rp (f l[i]++r))/\∀st,loadAt π e st (.rp (f l[i]++r))=So (.ag (f l[i])):=by have⟨r,ix⟩:=(tP f hz l).at (P:=π) T (k:=i) (by simpa using hi);rw[Q4]at ix;exact⟨r,ix,λst=>ei T.inf ha T.sz (hz _)⟩
theorem DT(l:List Nat)(hi:i<l.length):∃a,indexAddr π 50 (fu l) (.i .i64 (i:Int))=So a/\∀st,loadAt π 3 st a=So (.i .i64 (l[i]:Int)):=by have⟨r,ix⟩:=(tP mQ (λ_=>rfl) l).at (P:=π) Fu (k:=i) (by simpa using hi);rw[Q4]at ix;exact⟨_,ix,λst=>by rw[wN dW zR];rfl⟩
theorem RQ(h:k.Sm)(hf:aE fv=Tt)(hs:lU k.gl.length most o)(hl:py o)(hN:3000001<=N):(Tw c N).call 70 [k.p fv,.ag o.cells,.i .i64 (most:Int)] st=So (.b Tt,st):=by
 cases N
 ·omega
 rename_i N;have hp:aA [k.p fv,.ag o.cells,.i .i64 (most:Int)]=true:=by simp[aA,aE,bS.mh h.ok hf,bC.pure]
 refine eS (X:=[]) rfl rfl (.inr (by decide)) (.pure hp) func70 rfl (Q1 rfl) rfl ?_;unfold aJ;have c1:=bq (st:=ay) o.cells;have n1:(ay.aj o.cells).next=1:=rfl;obtain⟨s1,hs1⟩:∃s,ay.aj o.cells=s:=⟨_,rfl⟩;rw[hs1]at c1 n1;have k2:=Kp.aj (st:=s1) [] [] [.i .i64 (most:Int)];have c2:=bq (st:=s1) [.i .i64 (most:Int)];have n2:(s1.aj [.i .i64 (most:Int)]).next=2:=by show s1.next+1=_;omega
 obtain⟨s2,hs2⟩:∃s,s1.aj [.i .i64 (most:Int)]=s:=⟨_,rfl⟩;rw[hs2]at c2 k2 n2;have e0:ay.next=0:=rfl;rw[e0]at c1;rw[n1]at c2;obtain⟨-,-,-,o3,-,o5,o6,-,-⟩:=vD (k2.ce c1 (by omega) (by omega) (by simp) (by simp));have m1:rd s2 1 0 1=So [.i .i64 (most:Int)]:=by rw[ai c2];rfl
 have q:=λst:St=>He (c:=c) (st:=st) h hf hs.rs hl.rs (N:=N) (by omega)
 simp[f70,e0,hs1,n1,hs2,o3,m1,q,o5,Gt,ba];have hal:=hl.als.1;have hcl:=hl.chs.1;generalize hL:aQ _ _ _ _=L;obtain⟨t3,s3,rfl,z0,z4,z7,k3⟩:=cD hL 0 o.als.length
  (λi t s=>ab t 0=k.p fv/\ab t 4=.p 0 0/\ab t 5=.p 1 0/\ab t 7=.f (.func 121) [] [.p 1 0]/\ab t 22=ox o.als/\ab t 23=.i .i64 (o.als.length:Int)/\ab t 24=.i .i64 (i:Int)/\Kp [] [] s2 s)
  (λt s=>ab t 0=k.p fv/\ab t 4=.p 0 0/\ab t 7=.f (.func 121) [] [.p 1 0]/\Kp [] [] s2 s) (by omega)
  ⟨by simp,by simp,by simp,by simp,by simp,by simp,by simp,.refl _ _ _⟩
  (by
   rintro i t s hi ⟨i0,i4,i5,i7,i22,i23,i24,iK⟩;have e3:(i:Int)<(o.als.length:Int):=by omega
   have e4:wr .i64 ((i:Int)+1)=((i+1:Nat):Int):=by rw[aP (by omega) (by omega)];rfl
   have⟨r,ix,ld⟩:=ze Fv xX (f:=dG.cells) (λ_=>rfl) o.als hi;have ix:indexAddr π 84 (ox o.als) (.i .i64 (i:Int))=So (.rp (o.als[i].cells++r)):=ix;have hm:=Q3 hi;have⟨h1,h2⟩:=hs.als _ hm;have h3:=hl.als.2 _ hm;generalize o.als[i]=a at*;have⟨s',y1,y2,y3,y4⟩:=bJ (s:=s) (z:=[.i .i64 0,.i .i64 0,.sn,.i .i64 0]) (cells:=a.cells) rfl a.sc;have sto:=aC vq vQ (s.aj [.i .i64 0,.i .i64 0,.sn,.i .i64 0]) s.next 0 a.cells rfl;have a3:rd s' s.next 3 1=So [.i .i64 (a.slot:Int)]:=by rw[ai y2];rfl
   have a2:rd s' s.next 2 1=So [bz a.rs]:=by rw[ai y2];rfl
   have K:=iK.trans y3;have c2':=K.ce c2 (by omega) (by omega) (by simp) (by simp);have m':rd s' 1 0 1=So [.i .i64 (most:Int)]:=by rw[ai c2'];rfl
   have q1:=Nw (c:=c) c2' h1 (N:=N) (by omega);have q2:=λst:St=>He (c:=c) (st:=st) h hf h2 h3 (N:=N) (by omega)
   simp[i0,i5,i7,i22,i23,i24,e3,e4,ix,ld,aB,uc,sto,y1,a3,a2,q1,m',q2];exact⟨_,_,⟨rfl,rfl⟩,by simp[i0],by simp[i4],by simp[i5],by simp[i7],by simp[i22],by simp[i23],by simp,K⟩)
  (by rintro t s ⟨i0,i4,i5,i7,i22,i23,i24,iK⟩;simp[i23,i24];exact⟨_,_,⟨rfl,rfl⟩,by simp[i0],by simp[i4],by simp[i7],iK⟩)
 clear hL;obtain⟨-,-,-,-,-,-,o6',-,-⟩:=vD (k3.ce (k2.ce c1 (by omega) (by omega) (by simp) (by simp)) (by omega) (by omega) (by simp) (by simp));simp[z4,o6',sZ,ba];generalize hL:aQ _ _ _ _=L;obtain⟨t4,s4,rfl,-⟩:=cD hL 2 o.chs.length
  (λi t s=>ab t 7=.f (.func 121) [] [.p 1 0]/\ab t 43=gJ o.chs/\ab t 44=.i .i64 (o.chs.length:Int)/\ab t 45=.i .i64 (i:Int)/\Kp [] [] s2 s)
  (λt s=>True) (by omega)
  ⟨by simp[z7],by simp,by simp,by simp,k3⟩
  (by
   rintro i t s hi ⟨i7,i43,i44,i45,iK⟩;have e3:(i:Int)<(o.chs.length:Int):=by omega
   have e4:wr .i64 ((i:Int)+1)=((i+1:Nat):Int):=by rw[aP (by omega) (by omega)];rfl
   have⟨r,ix,ld⟩:=ze xr qN (f:=cT.cells) (λ_=>rfl) o.chs hi;have ix:indexAddr π 85 (gJ o.chs) (.i .i64 (i:Int))=So (.rp (o.chs[i].cells++r)):=ix;have hm:=Q3 hi;have h1:=hs.chs _ hm;have h3:=hl.chs.2 _ hm;generalize o.chs[i]=a at*;have⟨s',y1,y2,y3,y4⟩:=bJ (s:=s) (z:=[.i .i64 0,.i .i64 0,.i .i64 0,.sn,.i .i64 0]) (cells:=a.cells) rfl a.sc;have sto:=aC ma mw (s.aj [.i .i64 0,.i .i64 0,.i .i64 0,.sn,.i .i64 0]) s.next 0 a.cells rfl;have a3:rd s' s.next 3 1=So [fu a.slots]:=by rw[ai y2];rfl
   have K:=iK.trans y3;simp[i43,i44,i45,e3,ix,ld,aB,lR,sto,y1,a3,oM,ba];generalize hL:aQ _ _ _ _=L;obtain⟨t5,s5,rfl,z7',z43,z44,z45,k5⟩:=cD hL 4 a.slots.length
    (λj t s=>ab t 7=.f (.func 121) [] [.p 1 0]/\ab t 43=gJ o.chs/\ab t 44=.i .i64 (o.chs.length:Int)/\ab t 45=.i .i64 (i:Int)/\ab t 50=fu a.slots/\ab t 51=.i .i64 (a.slots.length:Int)/\ab t 52=.i .i64 (j:Int)/\Kp [] [] s2 s)
    (λt s=>ab t 7=.f (.func 121) [] [.p 1 0]/\ab t 43=gJ o.chs/\ab t 44=.i .i64 (o.chs.length:Int)/\ab t 45=.i .i64 (i:Int)/\Kp [] [] s2 s) (by omega)
    ⟨by simp[i7],by simp[i43],by simp[i44],by simp[i45],by simp,by simp,by simp,K⟩
    (by
     rintro j t s hj ⟨j7,j43,j44,j45,j50,j51,j52,jK⟩;have e3:(j:Int)<(a.slots.length:Int):=by omega
     have e4:wr .i64 ((j:Int)+1)=((j+1:Nat):Int):=by rw[aP (by omega) (by omega)];rfl
     have⟨ad,ix,ld⟩:=DT a.slots hj;have q1:=Nw (c:=c) (jK.ce c2 (by omega) (by omega) (by simp) (by simp)) (h1 _ (Q3 hj)) (N:=N) (by omega);simp[j7,j50,j51,j52,e3,e4,ix,ld,q1];exact⟨_,_,⟨rfl,rfl⟩,by simp[j7],by simp[j43],by simp[j44],by simp[j45],by simp[j50],by simp[j51],by simp,jK⟩)
    (by rintro t s ⟨j7,j43,j44,j45,j50,j51,j52,jK⟩;simp[j51,j52];exact⟨_,_,⟨rfl,rfl⟩,by simp[j7],by simp[j43],by simp[j44],by simp[j45],jK⟩)
   clear hL;simp[z45,e4];exact⟨_,_,⟨rfl,rfl⟩,by simp[z7'],by simp[z43],by simp[z44],by simp,k5⟩)
  (by rintro t s ⟨i7,i43,i44,i45,iK⟩;simp[i44,i45])
 clear hL;simp[bf,aO]
theorem Ab{o:cT}(h:s.ce r=So (o.cells,g,al)):rd s r 0 1=So [.i .i64 o.k]/\rd s r 1 1=So [.i .i64 (o.n:Int)]/\rd s r 2 1=So [.i .i64 o.num]/\rd s r 3 1=So [fu o.slots]/\rd s r 4 1=So [.i .i64 (o.op:Int)]/\loadAt π 149 s (.p r 0)=So (.ag o.cells):=by
 have e:∀i,rd s r i 1=cut o.cells i 1:=λi=>by rw[ai h]
 refine⟨by rw[e];rfl,by rw[e];rfl,by rw[e];rfl,by rw[e];rfl,by rw[e];rfl,?_⟩;rw[cu ma qN,mw,ai h];rfl
theorem Vz(h:k.Sm)(hf:aE fv=Tt){a:cT}(hs:Rz (jo k.ds) a.sg)(hN:2<=N):(Tw c N).call 161 [k.p fv,.ag a.cells] st=So (.b Tt,st):=by
 cases N
 ·omega
 rename_i N;have hp:aA [k.p fv,.ag a.cells]=true:=by simp[aA,aE,bS.mh h.ok hf,cT.pure]
 refine eS (X:=[]) rfl rfl (.inr (by decide)) (.pure hp) func161 rfl (Q1 rfl) rfl ?_;unfold aJ;have c1:=bq (st:=ay) a.cells;obtain⟨s1,hs1⟩:∃s,ay.aj a.cells=s:=⟨_,rfl⟩;rw[hs1]at c1;obtain⟨o0,o1,o2,o3,-,-⟩:=Ab c1;rcases hs with ⟨hk,hm,hc⟩|⟨hk,hn,hz⟩|⟨hk,hn,hz,hm,hm'⟩|⟨hk,hn,hm,hz⟩
 ·have hk:a.k=1:=hk;have hm:a.num=0:=hm;rw[hk]at o0;rw[hm]at o2;have q:=λst:St=>Hj (c:=c) (st:=st) h hf hc (N:=N) (by omega)
  have q:∀st,(Tw c N).call 119 [k.p fv,.i .i64 (a.n:Int),.i .i64 (a.slots.length:Int)] st=So (.b Tt,st):=q;simp[f161,hs1,o0,o1,o2,o3,oM,q]
 ·have hk:a.k=2:=hk;have hn:a.n=0:=hn;have hz:a.slots.length=0:=hz;have hz:=Q6 hz;rw[hk]at o0;rw[hn]at o1;rw[hz]at o3;simp[f161,hs1,o0,o1,o3,oM]
 ·have hk:a.k=3:=hk;have hn:a.n=0:=hn;have hz:a.slots.length=0:=hz;have hm:0<=a.num:=hm;have hm':a.num<=255:=hm';have hz:=Q6 hz;rw[hk]at o0;rw[hn]at o1;rw[hz]at o3;simp[f161,hs1,o0,o1,o2,o3,oM,hm,hm']
 ·have hk:a.k=4:=hk;have hn:a.n=0:=hn;have hz:a.slots.length<=1:=hz;have hm:a.num=0:=hm;rw[hk]at o0;rw[hn]at o1;rw[hm]at o2;have hz:(a.slots.length:Int)<=1:=by omega
  simp[f161,hs1,o0,o1,o2,o3,oM,hz]
theorem Mz(h:uT (jo ds) n z):∃hn:n<ds.length,jS ds n=ds[n].ty:=by have⟨d,h1,h2⟩:=Z7.1 h;have⟨hn,h3⟩:=J4.1 h1;exact⟨hn,by simp[jS,hn]⟩
theorem Vy(h:k.Sm)(hf:aE fv=Tt){chs:List cT}(hs:Cs (jo k.ds) (jS k.ds) (chs.map cT.sg))(hl:chs.length<=1000000)(hN:3000000<=N):(Tw c N).call 120 [k.p fv,gJ chs] st=So (.b Tt,st):=by
 cases N
 ·omega
 rename_i N;have hp:aA [k.p fv,gJ chs]=true:=by simp[aA,bS.mh h.ok hf,Mu]
 refine eS (X:=[]) rfl rfl (.inr (by decide)) (.pure hp) func120 rfl (Q1 rfl) rfl ?_;unfold aJ;have⟨hne,hS⟩:=hs;have h0:0<chs.length:=X6.2 λe=>hne (by rw[e];rfl)
 have hrs:gJ chs=.rs (chs.flatMap cT.cells) chs.length 5:=by unfold gJ eA;rw[if_neg (by omega)]
 have⟨r0,ix0,ld0⟩:=ze xr qN (f:=cT.cells) (λ_=>rfl) chs h0;have ix0:indexAddr π 85 (gJ chs) (.i .i64 0)=So (.rp (chs[0].cells++r0)):=ix0;have hs0:=hS 0 chs[0].sg (by simp[h0]);obtain⟨d0,hd0⟩:∃a,chs[0]=a:=⟨_,rfl⟩;have k0:oneOf (takeN 1 (chs[0].cells++r0))=So (.i .i64 chs[0].k):=rfl;have k1:oneOf (takeN 1 (chs[0].cells++r0).tail)=So (.i .i64 (chs[0].n:Int)):=rfl;rw[hd0]at ix0 hs0 k0 k1;have hg:oneOf (cut [k.cv,k.ov,k.bo,k.gv,iN k.mn,fv] 0 1)=So k.cv:=rfl;have hcs:fq k.cv k.ds:=h.ok.c;simp[f120,sZ,ba];generalize hL:aQ _ _ _ _=L;obtain⟨t1,s1,rfl,z1⟩:=cD hL 0 chs.length
  (λi t s=>ab t 0=k.p fv/\ab t 1=gJ chs/\ab t 9=gJ chs/\ab t 10=.i .i64 (chs.length:Int)/\ab t 11=.i .i64 (i:Int)) (λt s=>ab t 1=gJ chs) (by omega)
  ⟨by simp,by simp,by simp,by simp,by simp⟩
  (by
   rintro i t s hi ⟨i0,i1,i9,i10,i11⟩;have e3:(i:Int)<(chs.length:Int):=by omega
   have e4:wr .i64 ((i:Int)+1)=((i+1:Nat):Int):=by rw[aP (by omega) (by omega)];rfl
   have e5:wr .i64 ((chs.length:Int)-1)=(chs.length:Int)-1:=aP (by omega) (by omega);have⟨r,ix,ld⟩:=ze xr qN (f:=cT.cells) (λ_=>rfl) chs hi;have ix:indexAddr π 85 (gJ chs) (.i .i64 (i:Int))=So (.rp (chs[i].cells++r)):=ix;have hA:=hS i chs[i].sg (by simp[hi]);obtain⟨a,ha⟩:∃a,chs[i]=a:=⟨_,rfl⟩;rw[ha]at ix ld hA;have⟨s',y1,y2,y3,y4⟩:=bJ (s:=s) (z:=[.i .i64 0,.i .i64 0,.i .i64 0,.sn,.i .i64 0]) (cells:=a.cells) rfl a.sc;have sto:=aC ma mw (s.aj [.i .i64 0,.i .i64 0,.i .i64 0,.sn,.i .i64 0]) s.next 0 a.cells rfl;obtain⟨o0,o1,o2,o3,-,ld2⟩:=Ab y2;have q:=λst:St=>Vz (c:=c) (st:=st) h hf hA.ok (N:=N) (by omega)
   have slp:∀st,gR π st 85 (gJ chs) No (So (.i .i64 (i:Int))) No=So (.rs (chs.flatMap cT.cells) i 5):=λst=>by rw[hrs];exact zf xr (by omega)
   have lnp:∀st,cP π st [85] [.rs (chs.flatMap cT.cells) i 5]=So (.i .i64 (i:Int),st):=λst=>bg underlying85 rfl rfl
   have z0:(chs.map cT.sg)[0]'(by simpa using h0)=d0.sg:=by simp[hd0]
   have kd:a.k≠4->d0.k=a.k:=λhk=>by have⟨_,e⟩:=hA.kind hk;rw[z0]at e;exact e.symm
   rcases hA.ok with ⟨hk,hm,hc⟩|⟨hk,hn,hz⟩|⟨hk,hn,hz,hm,hm'⟩|⟨hk,hn,hm,hz⟩
   case' inl=>
    have hk:a.k=1:=hk;have kd:=kd (by rw[hk];decide);have⟨hn,ht⟩:=Mz hc;have hc0:uT (jo k.ds) d0.n d0.slots.length:=by
     rcases hs0.ok with ⟨_,_,hc⟩|⟨hk',_⟩|⟨hk',_⟩|⟨hk',_⟩
     ·exact hc
     all_goals
      have hk':d0.k=_:=hk';rw[kd,hk]at hk';cases hk'
    have⟨hn0,ht0⟩:=Mz hc0;have⟨_,et⟩:=hA.ty hk;rw[z0]at et;have et:jS k.ds a.n=jS k.ds d0.n:=et;have hn:a.n<k.ds.length:=hn;have ht:jS k.ds a.n=k.ds[a.n].ty:=ht;rw[ht,ht0]at et;have⟨ra,ixa⟩:=qU hcs hn;have⟨rb,ixb⟩:=qU hcs hn0;have ta:oneOf (takeN 1 (List.drop 2 (k.ds[a.n].cells++ra)))=So (.s k.ds[a.n].ty):=rfl;have tb:oneOf (takeN 1 (List.drop 2 (k.ds[d0.n].cells++rb)))=So (.s k.ds[a.n].ty):=by rw[et];rfl
    have o0':=o0;rw[hk]at o0' kd;rw[kd]at k0;simp[i9,i10,i11,e3,ix,ld,aB,lR,sto,y1,aY];rw[bP (by kernel_rfl)];simp[i0,i1,ld2,q,o0',ix0,k0,aY];rw[bP (by kernel_rfl)];simp[i0,i1,o0',o1,bS.p,ixa,ixb,ix0,k1,ta,tb,ik,slp,lnp,ba]
   case' inr.inl=>have hk:a.k=2:=hk;have kd:=kd (by rw[hk];decide);have o0':=o0;rw[hk]at o0' kd;rw[kd]at k0;simp[i9,i10,i11,e3,ix,ld,aB,lR,sto,y1,aY];rw[bP (by kernel_rfl)];simp[i0,i1,ld2,q,o0',ix0,k0,aY];rw[bP (by kernel_rfl)];simp[i1,o0',slp,lnp,ba]
   case' inr.inr.inl=>have hk:a.k=3:=hk;have kd:=kd (by rw[hk];decide);have o0':=o0;rw[hk]at o0' kd;rw[kd]at k0;simp[i9,i10,i11,e3,ix,ld,aB,lR,sto,y1,aY];rw[bP (by kernel_rfl)];simp[i0,i1,ld2,q,o0',ix0,k0,aY];rw[bP (by kernel_rfl)];simp[i1,o0',slp,lnp,ba]
   case' inr.inr.inr=>
    have hk:a.k=4:=hk;have he:i+1=(chs.map cT.sg).length:=hA.els hk;rw[Q2]at he;have e6:(chs.length:Int)-1=(i:Int):=by omega
    rw[e6]at e5;have o0':=o0;rw[hk]at o0';simp[i9,i10,i11,e3,ix,ld,aB,lR,sto,y1,aY];rw[bP (by kernel_rfl)];simp[i0,i1,ld2,q,o0',sZ,e6,e5,aY];rw[bP (by kernel_rfl)];simp[i1,o0',slp,lnp,ba]
   all_goals
    generalize hL:aQ _ _ _ _=L;obtain⟨t5,s5,rfl,z0',z1',z9,z10,z11⟩:=cD hL 2 i
     (λj t u=>ab t 0=k.p fv/\ab t 1=gJ chs/\ab t 9=gJ chs/\ab t 10=.i .i64 (chs.length:Int)/\ab t 11=.i .i64 (i:Int)/\ab t 6=.p s.next 0/\ab t 76=.rs (chs.flatMap cT.cells) i 5/\ab t 77=.i .i64 (i:Int)/\ab t 78=.i .i64 (j:Int)/\Kp [] [] s' u)
     (λt u=>ab t 0=k.p fv/\ab t 1=gJ chs/\ab t 9=gJ chs/\ab t 10=.i .i64 (chs.length:Int)/\ab t 11=.i .i64 (i:Int)) (by omega)
     ⟨by simp[i0],by simp[i1],by simp[i9],by simp[i10],by simp[i11],by simp,by simp,by simp,by simp,.refl _ _ _⟩
     (by
      rintro j t u hj ⟨j0,j1,j9,j10,j11,j6,j76,j77,j78,jK⟩;have e3:(j:Int)<(i:Int):=by omega
      have e4:wr .i64 ((j:Int)+1)=((j+1:Nat):Int):=by rw[aP (by omega) (by omega)];rfl
      have hjl:j<chs.length:=by omega
      have ij:=dP (P:=π) underlying85 ma mw (chs.flatMap cT.cells) i j hj;have⟨rj,fj⟩:=DC (z:=5) (els:=chs.map cT.cells) (λx hx=>by obtain⟨y,-,rfl⟩:=Z8.1 hx;rfl) (k:=j) (by simpa using hjl);rw[<-List.flatMap_def,Q4]at fj;rw[fj]at ij;have hno:=hA.once j chs[j].sg hj (by simp[hjl]);have hno:¬(chs[j].k=a.k/\chs[j].n=a.n/\chs[j].num=a.num):=hno;have ldj:∀st,loadAt π 149 st (.rp (chs[j].cells++rj))=So (.ag chs[j].cells):=λst=>ei ma qN mw rfl
      generalize chs[j]=b at*;have⟨u',w1,w2,w3,w4⟩:=bJ (s:=u) (z:=[.i .i64 0,.i .i64 0,.i .i64 0,.sn,.i .i64 0]) (cells:=b.cells) rfl b.sc;have sto':=aC ma mw (u.aj [.i .i64 0,.i .i64 0,.i .i64 0,.sn,.i .i64 0]) u.next 0 b.cells rfl;obtain⟨b0,b1,b2,-,-,-⟩:=Ab w2;obtain⟨a0,a1,a2,-,-,-⟩:=Ab ((jK.trans w3).ce y2 y4 y4 (by simp) (by simp));by_cases b_k:b.k=a.k
      ·by_cases b_n:(b.n:Int)=(a.n:Int)
       ·have b_m:¬b.num=a.num:=λh=>hno ⟨b_k,by omega,h⟩
        rw[b_k]at b0;rw[b_n]at b1;simp[j6,j76,j77,j78,e3,e4,ij,ldj,aB,lR,sto',w1,a0,a1,a2,b0,b1,b2,b_m];exact⟨_,_,⟨rfl,rfl⟩,by simp[j0],by simp[j1],by simp[j9],by simp[j10],by simp[j11],by simp[j6],by simp[j76],by simp[j77],by simp,jK.trans w3⟩
       ·rw[b_k]at b0;have b_n':¬b.n=a.n:=by omega
        simp[j6,j76,j77,j78,e3,e4,ij,ldj,aB,lR,sto',w1,a0,a1,b0,b1,b_n];exact⟨_,_,⟨rfl,rfl⟩,by simp[j0],by simp[j1],by simp[j9],by simp[j10],by simp[j11],by simp[j6],by simp[j76],by simp[j77],by simp,jK.trans w3⟩
      ·simp[j6,j76,j77,j78,e3,e4,ij,ldj,aB,lR,sto',w1,a0,b0,b_k];exact⟨_,_,⟨rfl,rfl⟩,by simp[j0],by simp[j1],by simp[j9],by simp[j10],by simp[j11],by simp[j6],by simp[j76],by simp[j77],by simp,jK.trans w3⟩)
     (by rintro t u ⟨j0,j1,j9,j10,j11,j6,j76,j77,j78,jK⟩;simp[j77,j78];exact⟨j0,j1,j9,j10,j11⟩)
    clear hL;simp[z0',z1',z9,z10,z11,e4]
    all_goals rfl)
  (by rintro t s ⟨i0,i1,i9,i10,i11⟩;simp[i10,i11,i1])
 clear hL;simp[z1,sZ,h0]
theorem acf(h:k.Sm)(hf:aE fv=Tt)(hs:kY (jo k.ds) (jS k.ds) strF arF k.m.bos o)(hl:py o)(hN:3000001<=N):(Tw c N).call 69 [k.p fv,.ag o.cells] st=So (.b Tt,st):=by
 cases N
 ·omega
 rename_i N;have hp:aA [k.p fv,.ag o.cells]=true:=by simp[aA,aE,bS.mh h.ok hf,bC.pure]
 refine eS (X:=[]) rfl rfl (.inr (by decide)) (.pure hp) func69 rfl (Q1 rfl) rfl ?_;unfold aJ;have c1:=bq (st:=ay) o.cells;obtain⟨s1,hs1⟩:∃s,ay.aj o.cells=s:=⟨_,rfl⟩;rw[hs1]at c1;have⟨o0,o1,o2,o3,o4,o5,o6,o7,ld⟩:=vD c1;have qb:=λst:St=>Ut (c:=c) (st:=st) hs (N:=N) (by omega)
 cases hs with
 |ref r=>simp[oz]at qb;simp[f69,hs1,o0,o3,ld,qb,oX,iN]
 |fn n rs b h1 h2 h3=>
  simp[oz]at qb;have q:=λst:St=>NP (c:=c) (st:=st) h hf h1 h2 h3 (N:=N) (by omega)
  simp[f69,hs1,o0,o1,o3,ld,qb,oX,iN,q]
 |con n rs h1=>
  simp[oz]at qb;have q:=λst:St=>Hj (c:=c) (st:=st) h hf h1 (N:=N) (by omega)
  simp[f69,hs1,o0,o1,o3,ld,qb,oX,iN,q]
 |app rs next h1 h2=>
  simp[oz]at qb;have e1:(1:Int)<=(rs.length:Int):=by omega
  have e2:(rs.length:Int)<=32:=by omega
  simp[f69,hs1,o0,o3,ld,qb,oX,iN,e1,e2]
 |cs chs next h1=>
  simp[oz]at qb;have q:=λst:St=>Vy (c:=c) (st:=st) h hf h1 hl.chs.1 (N:=N) (by omega)
  simp[f69,hs1,o0,o6,ld,qb,iN,q]
 |pr nm ops rs h0 h1 h2=>
  simp[oz]at qb;have q:=λst:St=>Ka (c:=c) (st:=st) nm (N:=N) (by omega)
  have q2:=λst:St=>LK (c:=c) (st:=st) nm (N:=N) (by omega)
  have hw:wr .i64 (arF nm-strF nm)=(rs.length:Int):=by have:=hl.rs;rw[h2];exact aP (by simp only at this;omega) (by simp only at this;omega)
  simp[f69,hs1,o0,o2,iN,q,aY];rw[ft (fl:=[(15,20),(16,20)])]
  rotate_left
  ·kernel_rfl
  ·intro R hR;simp[ld,qb,h0,o4,oM,h1,o3,oX,o2,q2,hw]at hR;subst hR;simp only[Z9,K8,V0,Q0];exact⟨cZ rfl rfl rfl (s:=s1) (by simp[o3]),cZ rfl rfl rfl (s:=s1) (by simp[oX])⟩
  ·simp[ld,qb,h0,o4,oM,h1,o3,oX,o2,q2,hw]
 |lt als next h1 h2=>
  simp[oz]at qb;have hal:=hl.als.1;have e0:¬als.length=0:=λe=>h1 (Q6 e)
  simp[f69,hs1,o0,o5,ld,qb,iN,Gt,h1,ba];generalize hL:aQ _ _ _ _=L;obtain⟨t3,s3,rfl,-⟩:=cD hL 1 als.length
   (λi t s=>ab t 0=k.p fv/\ab t 74=ox als/\ab t 75=.i .i64 (als.length:Int)/\ab t 76=.i .i64 (i:Int))
   (λt s=>True) (by simp only at hal;omega)
   ⟨by simp,by simp,by simp,by simp⟩
   (by
    rintro i t s hi ⟨i0,i74,i75,i76⟩;simp only at hal;have e3:(i:Int)<(als.length:Int):=by omega
    have e4:wr .i64 ((i:Int)+1)=((i+1:Nat):Int):=by rw[aP (by omega) (by omega)];rfl
    have⟨r,ix,ld⟩:=ze Fv xX (f:=dG.cells) (λ_=>rfl) als hi;have ix:indexAddr π 84 (ox als) (.i .i64 (i:Int))=So (.rp (als[i].cells++r)):=ix;have h2:=h2 _ (Q3 hi);generalize als[i]=a at*;have⟨s',y1,y2,y3,y4⟩:=bJ (s:=s) (z:=[.i .i64 0,.i .i64 0,.sn,.i .i64 0]) (cells:=a.cells) rfl a.sc;have sto:=aC vq vQ (s.aj [.i .i64 0,.i .i64 0,.sn,.i .i64 0]) s.next 0 a.cells rfl;have a0:rd s' s.next 0 1=So [.i .i64 (a.k:Int)]:=by rw[ai y2];rfl
    have a1:rd s' s.next 1 1=So [.i .i64 (a.n:Int)]:=by rw[ai y2];rfl
    have a2:rd s' s.next 2 1=So [bz a.rs]:=by rw[ai y2];rfl
    have q2:=λst:St=>Ph (c:=c) (st:=st) h hf h2 (N:=N) (by omega)
    simp[i0,i74,i75,i76,e3,e4,ix,ld,aB,uc,sto,y1,a0,a1,a2,q2])
   (by rintro t s ⟨i0,i74,i75,i76⟩;simp[i75,i76])
  clear hL;simp[bf,aO]
def iU(s:St)(lo:Nat)(v:AV)(l:List Nat):Prop:=(v=.sn/\l=[])\/∃r g al q,v=.sl r 0 l.length 1 q/\(q=No\/q=So l.length)/\s.ce r=So (l.map iN,g,al)/\l≠[]/\lo<=r/\lo<=g/\r<s.next/\g<s.next
theorem Oy:∀l:List Nat,l.flatMap mQ=l.map iN
 |[]=>rfl
 |x::l=>by rw[V1,Oy l];rfl
theorem Ov(l:List Nat):cz (fu l) (l.map iN):=by
 cases l with
 |nil=>exact .inl ⟨rfl,rfl⟩
 |cons x l=>right;unfold fu eA;rw[if_neg (by simp),Q2,Oy]
theorem abn(l:List Nat):aA (l.map iN)=true:=by
 induction l with
 |nil=>rfl
 |cons x l ih=>simp[aA,aE,iN,ih]
theorem Rv(l:List Nat):bH (l.map iN)=true:=by
 induction l with
 |nil=>rfl
 |cons x l ih=>simp[iN,ih]
section
variable {lo:Nat}{x:AV}{l m:List Nat}
theorem iU.len(h:iU s lo v l)(st:St):cP π st [50] [v]=So (.i .i64 (l.length:Int),st):=by rcases h with ⟨rfl,rfl⟩|⟨r,g,al,q,rfl,-⟩<;>exact bg underlying50 rfl rfl
theorem iU.keep{A B:List Nat}(h:iU s lo v l)(k:Kp A B s s')(hA:∀y∈A,y<lo)(hB:∀y∈B,y<lo):iU s' lo v l:=by
 rcases h with h|⟨r,g,al,q,h1,h2,h3,h4,h5,h6,h7,h8⟩
 ·exact .inl h
 ·exact .inr ⟨r,g,al,q,h1,h2,k.ce h3 h7 h8 (λhh=>by grind) (λhh=>by grind),h4,h5,h6,Q9 h7 k.next,Q9 h8 k.next⟩
theorem iU.fz(h:iU s lo v l):Fz 0 s v (fu l):=by
 rcases h with ⟨rfl,rfl⟩|⟨r,g,al,q,rfl,-,h3,h4,-⟩
 ·exact .pure rfl
 ·have e:fu l=.rs (l.map iN) l.length 1:=by
   rcases Ov l with ⟨-,h⟩|h
   ·simp at h;exact absurd h h4
   ·rw[h,Q2]
  rw[e];exact .slice h3 (by simp) (Q7 _) (.pure (abn l)) (λe=>h4 (Q6 e))
theorem iU.app(h:iU s lo v l)(hlo:lo<=s.next)(h1:lenOf x=So m.length)(h2:firstCells s 1 m.length x=So (m.map iN))(h3:gO x=No)(hn:l.length+m.length<=10000000):
  ∃v' s' G,fD π s [50,50] [v,x]=So (v',s')/\iU s' lo v' (l++m)/\Kp [] G s s'/\∀y∈G,lo<=y:=by
 have T:=rf;have eb:fD π s [50,50] [v,x]=append π s [50,50] v x:=by
  show wj π s [50,50] v x (gO x)=_
  rw[h3];show pH π s [50,50] v (append π s [50,50] v x)=_
  unfold pH;rw[T.ty0]
 have e0:(tI π [50,50]&&aN π 3&&bH (m.map iN))=true:=by rw[T.plain,T.sl.inf,Rv];rfl
 by_cases hm:m=[]
 ·subst hm;refine⟨v,s,[],?_,by grind,.refl _ _ _,by simp⟩;rw[eb];unfold append;simp only[T.el,h1,T.sl.sz,h2,e0];rcases h with ⟨rfl,-⟩|⟨r,g,al,q,rfl,-⟩<;>simp
 ·have hk:m.length≠0:=λe=>hm (Q6 e)
  have hb0:Nat.beq m.length 0=false:=by rw[bh];grind
  rcases h with ⟨rfl,rfl⟩|⟨r,g,al,q,rfl,rfl|rfl,g1,g2,g3,g4,g5,g6⟩
  ·refine⟨.sl s.next 0 m.length 1 No,s.aj (m.map iN),[],?_,.inr ⟨s.next,s.next,_,No,rfl,.inl rfl,bq _,hm,hlo,hlo,J5 _,J5 _⟩,.aj _ _ _,by simp⟩;rw[eb];unfold append;simp only[T.el,h1,T.sl.sz,h2,e0,hb0,T.fit (show m.length<=10000000 by omega)];rfl
  ·have⟨s',k1,⟨al',k2⟩,k3,k4,k5⟩:=NZ (z:=1) (n:=l.length) (new:=m.map iN) (m:=l.length+m.length) g1 (by simp) g6;refine⟨_,s',[g],?_,.inr ⟨s.next,g,al',No,by rw[V2],.inl rfl,by grind,by simp_all,hlo,g4,by omega,by omega⟩,⟨by omega,λr h _=>k4 r h,λg h hg=>k5 g (by grind)⟩,by grind⟩;rw[eb];unfold append;simp only[T.el,h1,T.sl.sz,h2,e0,hb0];have e2:Nat.ble (l.length+m.length) (qe s r 0 1)=false:=by
    have:qe s r 0 1=l.length:=by unfold qe;grind
    rw[this,X7];intro hh;have:=Q1 hh;omega
   show @Bool.rec (λ_=>Option (AV×St)) No (vn s r 0 l.length 1 (l.length+m.length) (m.map iN) (fits π 3 (l.length+m.length))) (Nat.beq 1 1)=_
   rw[T.fit hn];show vn s r 0 l.length 1 (l.length+m.length) (m.map iN) Tt=_
   unfold vn;simp_all
  ·refine⟨.sl s.next 0 (l.length+m.length) 1 No,s.aj (l.map iN++m.map iN),[],?_,.inr ⟨s.next,s.next,_,No,by grind,.inl rfl,by rw[J6];exact bq _,by simp_all,hlo,hlo,J5 _,J5 _⟩,.aj _ _ _,by simp⟩;rw[eb];unfold append;simp only[T.el,h1,T.sl.sz,h2,e0,hb0];have e2:Nat.ble (l.length+m.length) l.length=false:=by
    rw[X7];intro hh;have:=Q1 hh;omega
   have e3:Nat.beq l.length 0=false:=by rw[bh];grind
   have e4:firstCells s 1 l.length (.sl r 0 l.length 1 (So l.length))=So (l.map iN):=by
    show @Bool.rec (λ_=>Option (List AV)) (rd s r 0 (l.length*1)) (So []) (Nat.beq l.length 0)=_
    rw[e3];show rd s r 0 (l.length*1)=_
    rw[ai g1,eV,X8,<-Q2 (f:=iN),gY]
   rw[e2,e4,T.fit hn];rfl
theorem iU.jY(h:iU s lo v l)(hlo:lo<=s.next)(m:List Nat)(hn:l.length+m.length<=10000000):∃v' s' G,fD π s [50,50] [v,fu m]=So (v',s')/\iU s' lo v' (l++m)/\Kp [] G s s'/\∀y∈G,lo<=y:=by have⟨h1,h2,h3⟩:=OA (st:=s) (Ov m);rw[Q2]at h1 h2;exact h.app hlo h1 h2 h3 hn
theorem iU.iW(h:iU s lo v l)(hlo:lo<=s.next)(x:Nat)(hn:l.length+1<=10000000):∃v' s' G,fD π (s.aj [.i .i64 (x:Int)]) [50,50] [v,.sl s.next 0 1 1 (So 1)]=So (v',s')/\iU s' lo v' (l++[x])/\Kp [] G s s'/\∀y∈G,lo<=y:=by
 have k:=Kp.aj (st:=s) [] [] [.i .i64 (x:Int)];have⟨v',s',G,h1,h2,h3,h4⟩:=(h.keep k (by simp) (by simp)).app (x:=.sl s.next 0 1 1 (So 1)) (m:=[x]) (J1 hlo k.next) rfl (by
  show rd _ _ _ _=_
  rw[ai (bq _)];rfl) rfl hn
 exact⟨v',s',G,h1,h2,(k.sub (by simp) (by simp)).trans h3,h4⟩
end
def FX(s:St)(v:AV)(l:List Nat):Prop:=iU s 1 v l/\1<=s.next
theorem My(hl:py o)(hN:3000000<=N):(Tw c N).call 71 [.ag o.cells] st=So (fu (comes o),st):=by
 cases N
 ·omega
 rename_i N
 suffices h:∃v s,aJ c N f71 (f71.body.getD .skip) [.ag o.cells] ay=So (v,s)/\FX s v (comes o) by obtain⟨v,s,h1,h2,-⟩:=h;exact CO rfl rfl rfl rfl (by decide) (by simp[aA,aE,bC.pure]) func71 rfl (Q1 rfl) (DU _) ⟨v,s,h1,h2.fz⟩
 unfold aJ;have c1:=bq (st:=ay) o.cells;have n1:(ay.aj o.cells).next=1:=rfl;obtain⟨s1,hs1⟩:∃s,ay.aj o.cells=s:=⟨_,rfl⟩;rw[hs1]at c1 n1;have e0:ay.next=0:=rfl;rw[e0]at c1;obtain⟨o0,-,-,-,-,-,-,o7,-⟩:=vD c1;obtain⟨l0,hl0⟩:∃l,(if o.k=4\/o.k=5\/o.k=6 then[o.next] else[])=l:=⟨_,rfl⟩;have hlen:l0.length<=1:=by grind
 have hco:comes o=l0++(o.ops++o.chs.map (·.op)):=by rw[<-hl0];rfl
 have nil:iU s1 1 .sn []:=.inl ⟨rfl,rfl⟩;have⟨w2,u2,G2,a1,a2,a3,a4⟩:=nil.iW (by omega) o.next (by decide);rw[V3]at a2;have bo:=λ(t:Tr AV) (h:ah t (.tmp 14)=.i .i64 (o.next:Int))=>ef (S:=Tw c N) (t:=t) (st:=s1) rf (x:=.tmp 14) (cs:=[.i .i64 (o.next:Int)]) (by simp_all) rfl
 obtain⟨v2,s2,hv2,I2,G,k2,hG⟩:∃v2 s2,((o.k=4\/o.k=5\/o.k=6)/\v2=w2/\s2=u2\/¬(o.k=4\/o.k=5\/o.k=6)/\v2=.sn/\s2=s1)/\iU s2 1 v2 l0/\∃G,Kp [] G s1 s2/\∀y∈G,1<=y:=by
  by_cases hk:o.k=4\/o.k=5\/o.k=6
  ·grind
  ·rw[if_neg hk]at hl0;subst hl0;exact⟨.sn,s1,.inr ⟨hk,rfl,rfl⟩,nil,[],.refl _ _ _,by simp⟩
 have c2:=k2.ce c1 (by omega) (by omega) (by simp) (λhh=>by have:=hG _ hh;omega);obtain⟨-,-,-,-,o4,-,-,-,-⟩:=vD c2;have hops:=hl.ops;have n2:=k2.next;have⟨v3,s3,G',b1,I3,k3,hG'⟩:=I2.jY (by omega) o.ops (by omega);have c3:=k3.ce c2 (by omega) (by omega) (by simp) (λhh=>by have:=hG' _ hh;omega);obtain⟨-,-,-,-,-,-,o6,-,-⟩:=vD c3;have n3:=k3.next;have hch:=hl.chs.1;rcases hv2 with ⟨hk|hk|hk,rfl,rfl⟩|⟨hk,rfl,rfl⟩
 case' inl.inl=>rw[hk]at o0;simp[f71,e0,hs1,o0,o7,iN,bo,a1,o4,b1,o6,sZ,ba]
 case' inl.inr.inl=>rw[hk]at o0;simp[f71,e0,hs1,o0,o7,iN,bo,a1,o4,b1,o6,sZ,ba]
 case' inl.inr.inr=>rw[hk]at o0;simp[f71,e0,hs1,o0,o7,iN,bo,a1,o4,b1,o6,sZ,ba]
 case' succ.inr=>
  have h4:¬o.k=4:=λh=>hk (.inl h)
  have h5:¬o.k=5:=λh=>hk (.inr (.inl h))
  have h6:¬o.k=6:=λh=>hk (.inr (.inr h))
  have h4':¬(o.k:Int)=4:=by omega
  have h5':¬(o.k:Int)=5:=by omega
  have h6':¬(o.k:Int)=6:=by omega
  simp[f71,e0,hs1,o0,h4',h5',h6',iN,o4,b1,o6,sZ,ba]
 all_goals
  generalize hL:aQ _ _ _ _=L;obtain⟨t4,s4,rfl,v4,y3,y4⟩:=cD hL 1 o.chs.length
   (λi t s=>ab t 22=gJ o.chs/\ab t 23=.i .i64 (o.chs.length:Int)/\ab t 24=.i .i64 (i:Int)/\∃v,ab t 3=v/\FX s v (l0++(o.ops++(o.chs.take i).map (·.op))))
   (λt s=>∃v,ab t 3=v/\FX s v (comes o)) (by omega)
   ⟨by simp,by simp,by simp,v3,by simp,by simpa using I3,by omega⟩
   (by
    rintro i t s hi ⟨i22,i23,i24,v,i3,iI,iN⟩;have e3:(i:Int)<(o.chs.length:Int):=by omega
    have e4:wr .i64 ((i:Int)+1)=((i+1:Nat):Int):=by rw[aP (by omega) (by omega)];rfl
    have⟨r,ix,ld⟩:=ze xr qN (f:=cT.cells) (λ_=>rfl) o.chs hi;have ix:indexAddr π 85 (gJ o.chs) (.i .i64 (i:Int))=So (.rp (o.chs[i].cells++r)):=ix;have et:(o.chs.take (i+1)).map (·.op)=(o.chs.take i).map (·.op)++[o.chs[i].op]:=by rw[<-J8 hi,J6];rfl
    rw[et];generalize o.chs[i]=a at*;have⟨s',y1,y2,y3,y4⟩:=bJ (s:=s) (z:=[.i .i64 0,.i .i64 0,.i .i64 0,.sn,.i .i64 0]) (cells:=a.cells) rfl a.sc;have sto:=aC ma mw (s.aj [.i .i64 0,.i .i64 0,.i .i64 0,.sn,.i .i64 0]) s.next 0 a.cells rfl;obtain⟨-,-,-,-,a4,-⟩:=Ab y2;have n':=y3.next;have⟨v',s'',G3,z1,z2,z3,z4⟩:=(iI.keep y3 (by simp) (by simp)).iW (by omega) a.op (by simp only[V2,Q2,List.length_take];omega);have bo3:=λ(t:Tr AV) (h:ah t (.tmp 30)=.i .i64 (a.op:Int))=>ef (S:=Tw c N) (t:=t) (st:=s') rf (x:=.tmp 30) (cs:=[.i .i64 (a.op:Int)]) (by rw[h];rfl) rfl
    simp[i3,i22,i23,i24,e3,e4,ix,ld,aB,lR,sto,y1,a4,bo3,z1];exact⟨_,_,⟨rfl,rfl⟩,by simp[i22],by simp[i23],by simp,by simpa using z2,by have:=z3.next;omega⟩)
   (by rintro t s ⟨i22,i23,i24,v,i3,iI⟩;rw[J9,<-hco]at iI;simp[i23,i24];exact⟨_,_,⟨rfl,rfl⟩,by simpa[i3]using iI⟩)
  clear hL;exact⟨v4,s4,by simp[y3],y4⟩
def lM(l:List Nat):List Nat:=(xv (l.map λx:Nat=>(x:Int))).map Int.toNat
theorem acC(l:List Nat):(lM l).map iN=(xv (l.map λx:Nat=>(x:Int))).map iI:=by
 unfold lM;rw[V4];refine List.map_congr_left λx hx=>?_
 obtain⟨y,-,rfl⟩:=Z8.1 ((RU _).mem_iff.1 hx);rfl
theorem BO(l:List Nat):(lM l).Perm l:=by have:=(RU (l.map λx:Nat=>(x:Int))).map Int.toNat;simpa[lM,Function.comp_def]using this
def qJ(C:Nat->List Nat)(a i:Nat)(l:List Nat):Prop:=∃d q,l=d++q/\d.length=i/\d++pJ C (lP C a-i) q=fy C a/\jg C q+i=lP C a/\∀x∈l,x<=a
section
variable {C:Nat->List Nat}
theorem KF(hC:mz C):∀q:List Nat,q.length<=jg C q
 |[]=>Q7 _
 |x::q=>by
  have:=KF hC q;have h1:=Kk hC x;have:jg C (x::q)=lP C x+jg C q:=by simp[jg]
  grind
theorem qJ.start(a:Nat):qJ C a 0 [a]:=⟨[],[a],rfl,rfl,rfl,by rfl,by simp⟩
theorem qJ.step(hC:mz C){a:Nat}{l:List Nat}(h:qJ C a i l)(hi:i<lP C a):∃hl:i<l.length,qJ C a (i+1) (l++C l[i])/\l[i]<=a:=by
 obtain⟨d,q,rfl,rfl,h1,h2,h3⟩:=h;cases q with
 |nil=>simp[jg]at h2;omega
 |cons x q=>
  have e:(d++x::q)[d.length]'(by simp)=x:=by simp
  refine⟨by simp,?_,by simp_all⟩;rw[e];obtain⟨m,hm⟩:∃m,lP C a-d.length=m+1:=⟨lP C a-d.length-1,by omega⟩;rw[hm]at h1;rw[Cc hC]at h2;refine⟨d++[x],q++C x,by simp,by simp,?_,by omega,λy hy=>?_⟩
  ·rw[show lP C a-(d.length+1)=m by omega,<-h1];simp[pJ]
  ·rcases Q5.1 hy with hy|hy
   ·grind
   ·have:=hC x y hy;have:=h3 x (by simp);omega
theorem qJ.done{a:Nat}(hC:mz C){l:List Nat}(h:qJ C a (lP C a) l):l=fy C a:=by obtain⟨d,q,rfl,h0,h1,h2,-⟩:=h;have:=KF hC q;have hq:q=[]:=Q6 (by omega);subst hq;rw[Uu]at h1;grind
theorem qJ.len{a:Nat}(hC:mz C){l:List Nat}(h:qJ C a i l):l.length<=lP C a:=by obtain⟨d,q,rfl,h0,h1,h2,-⟩:=h;have:=KF hC q;grind
end
theorem abM{l:List Nat}(h:s.ce r=So (l.map iN,g,al))(hi:i<l.length):rd s r (0+i*1) 1=So [iN l[i]]:=by rw[ai h,X8,Nat.zero_add,uU _ _ _ (by grind),X9 (by grind),Q4];rfl
def KZ(s:St)(v:AV)(cells:List AV)(l:List Nat):Prop:=iU s 1 v l/\1<=s.next/\∃al,s.ce 0=So (cells,0,al)
theorem QQ(h:k.Sm)(hL:∀o∈k.m.ops,py o)(hC:mz (dI k.m.ops)){a:Nat}(ha:a<k.m.ops.length)(hT:(fy (dI k.m.ops) a).length<=1000000)(hN:4000000<=N):
  (Tw c N).call 32 [.ag k.cells,.i .i64 (a:Int)] st=So (fu (lM (fy (dI k.m.ops) a)),st):=by
 cases N
 ·omega
 rename_i N;rw[EX hC]at hT
 suffices hh:∃v s,aJ c N f32 (f32.body.getD .skip) [.ag k.cells,.i .i64 (a:Int)] ay=So (v,s)/\iU s 1 v (lM (fy (dI k.m.ops) a)) by have⟨v,s,h1,h2⟩:=hh;exact CO rfl rfl rfl rfl (by decide) (by simp[aA,aE,h.ok.pure]) func32 rfl (Q1 rfl) (DU _) ⟨v,s,h1,h2.fz⟩
 unfold aJ;have c1:=bq (st:=ay) k.cells;have n1:(ay.aj k.cells).next=1:=rfl;obtain⟨s1,hs1⟩:∃s,ay.aj k.cells=s:=⟨_,rfl⟩;rw[hs1]at c1 n1;have e0:ay.next=0:=rfl;rw[e0]at c1;have k2:=Kp.aj (st:=s1) [] [] [.i .i64 (a:Int)];have c2:=bq (st:=s1) [.i .i64 (a:Int)];have n2:(s1.aj [.i .i64 (a:Int)]).next=2:=by show s1.next+1=_;omega
 have bo:=λ(t:Tr AV) (h:ah t (.tmp 7)=.i .i64 (a:Int))=>ef (S:=Tw c N) (t:=t) (st:=s1) rf (x:=.tmp 7) (cs:=[.i .i64 (a:Int)]) (by simp_all) rfl
 obtain⟨s2,hs2⟩:∃s,s1.aj [.i .i64 (a:Int)]=s:=⟨_,rfl⟩;rw[hs2]at k2 c2 n2;have cl:(AV.ag k.cells).cells=So k.cells:=gh _;simp[f32,e0,hs1,bo,hs2,n1,ba];generalize hL':aQ _ _ _ _=L;obtain⟨t3,s3,rfl,z6,-,-⟩:=cD hL' 0 (lP (dI k.m.ops) a)
  (λi t s=>ab t 2=.p 0 0/\ab t 6=.i .i64 (i:Int)/\∃l,qJ (dI k.m.ops) a i l/\KZ s (ab t 5) k.cells l)
  (λt s=>KZ s (ab t 5) k.cells (fy (dI k.m.ops) a)) (by omega)
  ⟨by simp,by simp,[a],.start a,.inr ⟨1,1,_,So 1,by simp_all,.inr rfl,by rw[n1]at c2;exact c2,by simp,by omega,by omega,by omega,by omega⟩,by omega,_,k2.ce c1 (by omega) (by omega) (by simp) (by simp)⟩
  (by
   rintro i t s hi ⟨i2,i6,l,iR,iI,iN,al,iC⟩;have hll:=iR.len hC;have⟨hl,iR',hx⟩:=iR.step hC hi;have hll':=iR'.len hC;obtain⟨v,hv⟩:∃v,ab t 5=v:=⟨_,rfl⟩;rw[hv]at iI;have e3:(i:Int)<(l.length:Int):=by omega
   have e4:wr .i64 ((i:Int)+1)=((i+1:Nat):Int):=by rw[aP (by omega) (by omega)];rfl
   obtain⟨ad,ix,ld⟩:∃ad,indexAddr π 50 v (.i .i64 (i:Int))=So ad/\loadAt π 3 s ad=So (.i .i64 (l[i]:Int)):=by
    rcases iI with ⟨-,rfl⟩|⟨r,g,al',q,rfl,-,h3,-⟩
    ·simp at hl
    ·exact⟨_,wH underlying50 dW eY r 0 l.length i q hl,by rw[ry dW zR,abM h3 hl];rfl⟩
   obtain⟨x,hxx⟩:∃x,l[i]=x:=⟨_,rfl⟩;rw[hxx]at ld hx iR' hll';have hxl:x<k.m.ops.length:=by omega
   have⟨r,ixo⟩:=h.ok.o.at (P:=π) xn (k:=x) (by simpa using hxl);rw[Q4]at ixo;have ldo:loadAt π 87 s (.rp (k.m.ops[x].cells++r))=So (.ag k.m.ops[x].cells):=ei oL wh o9 rfl;have qc:=λst:St=>My (c:=c) (st:=st) (hL _ (Q3 hxl)) (N:=N) (by omega)
   have ec:dI k.m.ops x=comes k.m.ops[x]:=Hg (Z0 hxl);rw[<-ec]at qc;rw[V2]at hll';have⟨v',s',G,a1,a2,a3,a4⟩:=iI.jY (by omega) (dI k.m.ops x) (by omega);have r1:rd s 0 1 1=So [k.ov]:=by rw[ai iC];rfl
   have ln:=iI.len s;simp[hv,i6,ln,e3,aY];rw[bP (by kernel_rfl)];simp[hv,i2,i6,e4,r1,ix,ld,ixo,ldo,qc,a1];exact⟨_,_,⟨rfl,rfl⟩,by simp[i2],by simp,_,iR',by simpa using a2,by have:=a3.next;omega,_,a3.ce iC (by omega) (by omega) (by simp) (λhh=>by have:=a4 _ hh;omega)⟩)
  (by rintro t s ⟨i2,i6,l,iR,iI⟩;have:=iR.done hC;subst this;obtain⟨v,hv⟩:∃v,ab t 5=v:=⟨_,rfl⟩;have iI':=iI;rw[hv]at iI';have ln:=iI'.1.len s;rw[EX hC]at ln;simp[hv,i6,ln];exact⟨_,_,⟨rfl,rfl⟩,by simpa[hv]using iI'⟩)
 clear hL';obtain⟨v,hv⟩:∃v,ab t3 5=v:=⟨_,rfl⟩;rw[hv]at z6;have hne:fy (dI k.m.ops) a≠[]:=λe=>by have h1:=EX hC a;have h2:=Kk hC a;rw[e]at h1;simp only[V6]at h1;omega
 rcases z6 with ⟨-,e⟩|⟨r,g,al,q,rfl,h2,h3,h4,h5,h6,h7,h8⟩
 ·exact absurd e hne
 obtain⟨l,hl⟩:∃l,fy (dI k.m.ops) a=l:=⟨_,rfl⟩;rw[hl]at h2 h3 h4|-;rw[hl]at hv;have hln:l.length<=1000000:=by rw[<-hl,EX hC];exact hT
 have hp:=(BO l).length_eq;have hw:=c9 h3 0 ((lM l).map iN) (by simp[hp]) (Rv _);rw[pY,nU (by simp[hp])]at hw;have h0:0<l.length:=X6.2 h4;have q4:=acH (c:=c) (n:=N-1) (r:=r) (o:=0) (m:=l.length) (z:=1) (q:=q) (ss:=l.map λx:Nat=>(x:Int)) h0 (by omega) (by rw[ai h3,eV,<-Q2 (f:=iN),gY,V4];rfl) (by rw[<-acC];exact hw);rw[show N-1+1=N by omega]at q4;refine⟨_,_,by simp[hv,q4];exact⟨rfl,rfl⟩,.inr ⟨r,g,[r],q,by rw[hp],by rw[hp];exact h2,dA ..,?_,h5,h6,?_,?_⟩⟩
 ·intro e;rw[e]at hp;simp at hp;omega
 ·exact h7
 ·exact h8
end Go.Proofs.YtnmofhngblebiaaGreatDoor
namespace Go.Ev
variable {A cs xs ys:List AV}{C:ae->Option AV}{F F' L al:List Nat}{H:List dh}{N br f fr g i most n r r7 rx z:Nat}{S:Self}{a b l:aa}{c:Option Self}{fs:List aK}{fv sv sv1 v:AV}{m:Ms}{nm:ae}{o:bC}{p ps:List ae}{s s' s1 st:St}{sc sc':List (List ae)}{t t1:Tr AV}{x:Ex}{α:Type}
theorem Vc{G:FuncId->Bool}{f:FuncId}{X:List Nat}(hG:G f=Tt)(hy:aA ys=Tt)(hv:tJ v=Tt)(h:(eT G S S).call f ys ay=So (v,ay))(hx:fY X st xs ys):(eT G S S).call f xs st=So (v,st):=by
 have h:(if G f=Tt then uN S S f ys ay else S.call f ys ay)=_:=h;rw[if_pos hG]at h;unfold uN at h;rw[QP (fY.pure (X:=[]) hy)]at h;simp only at h;cases hc:S.call f ys ay with
 |none=>grind
 |some p=>
  have⟨v1,s1⟩:=p;rw[hc]at h;simp only at h;by_cases hp:tJ v1=Tt
  ·rw[if_pos hp]at h;cases h;exact CQ hG hx hc hp
  grind
end Go.Ev
namespace Go.Proofs.YtnmofhngblebiaaGreatDoor
variable {A cs xs ys:List AV}{C:ae->Option AV}{F F' L al:List Nat}{H:List dh}{N br f fr g i most n r r7 rx z:Nat}{S:Self}{a b l:aa}{c:Option Self}{ds:List bG}{fs:List aK}{fv sv sv1 v:AV}{k:bS}{m:Ms}{nm:ae}{o:bC}{p ps:List ae}{s s' s1 st:St}{sc sc':List (List ae)}{t t1:Tr AV}{x:Ex}{α:Type}
theorem BW{X:List Nat}(h0:G0 f=Ff)(h1:G1 f=Tt)(h7:f≠16)(hN:1<=N)(hx:fY X st xs ys)(hy:aA ys=Tt)(hv:tJ v=Tt)(h:∀st,(Tw c N).call f ys st=So (v,st)):(Tw c N).call f xs st=So (v,st):=by
 cases N
 ·omega
 rename_i N;have h:=h ay;rw[pd (.inr h7)]at h|-;have e:∀(S:Self) ys st,(W0 S).call f ys st=(eT G1 (qR G4 fJ (qR G2 (W1 S) (mN G3 pW (yk G5 lJ (W1 S))))) (qR G4 fJ (qR G2 (W1 S) (mN G3 pW (yk G5 lJ (W1 S)))))).call f ys st:=λS ys st=>iY h0
 rw[e]at h|-;exact Vc h1 hy hv h hx
def qy(s:St)(fr n:Nat)(f:Nat->Nat):Prop:=∃al,s.ce fr=So ((List.range n).map λj=>iN (f j),fr,al)
theorem qy.num{x:Nat}{f:Nat->Nat}(h:qy s fr n f)(hn:x<n):rd s fr x 1=So [.i .i64 (f x:Int)]:=by have⟨al,h1⟩:=h;rw[ai h1,uU _ _ _ (by grind),X9 (by grind),Q4,List.getElem_range];rfl
theorem qy.inc{x:Nat}(h:qy s fr n λx=>L.count x)(hn:x<n):∃s',wt s fr x [.i .i64 ((L.count x:Int)+1)]=So s'/\(qy s' fr n λy=>(L++[x]).count y)/\Kp [fr] [fr] s s'/\s'.next=s.next/\∀r l al,r≠fr->s.ce r=So (l,r,al)->s'.ce r=So (l,r,al):=by
 have⟨al,h2⟩:=h;have hw:=c9 h2 x [.i .i64 ((L.count x:Int)+1)] (by grind) rfl;refine⟨_,hw,⟨[fr],?_⟩,.aG (by simp) (by simp),rfl,λr l al hr hc=>BH hc hr hr⟩;rw[dA,Bk];congr 2;refine List.ext_getElem (by simp) λj a b=>?_
 by_cases e:x=j
 ·subst e;simp[iN]
 grind
structure gy(s:St)(k:bS)(r fr:Nat)(f:Nat->Nat):Prop where
 ck:∃al,s.ce r=So ([k.cv,k.ov,k.bo,k.gv,iN k.mn,.sl fr 0 k.m.ops.length 1 (So k.m.ops.length)],r,al)
 cf:qy s fr k.m.ops.length f
 lt:r<s.next/\fr<s.next/\r≠fr
def HY(k:bS)(f:Nat->Nat):AV:=.rs ((List.range k.m.ops.length).map λj=>iN (f j)) k.m.ops.length 1
section
variable {f:Nat->Nat}
theorem Ju{α:Type}(g:α->Nat):∀l:List α,aA (l.map λj=>iN (g j))=Tt
 |[]=>rfl
 |x::l=>by exact Ju g l
theorem qZ:aE (HY k f)=true:=Ju f _
theorem gy.new(h:gy s k r fr f)(K:Kp [] [] s s'):gy s' k r fr f:=by have⟨⟨al,h1⟩,⟨al',h2⟩,h3,h4,h5⟩:=h;exact⟨⟨al,K.ce h1 h3 h3 (by simp) (by simp)⟩,⟨al',K.ce h2 h4 h4 (by simp) (by simp)⟩,Q9 h3 K.next,Q9 h4 K.next,h5⟩
theorem gy.vH(h:gy s k r fr f)(hk:k.OK):im [] s (.p r 0) (k.p (HY k f)):=by
 have⟨⟨al,h1⟩,⟨al',h2⟩,h3,h4,h5⟩:=h;have hp:=hk.pure;simp only[bS.cells,aA,Q0]at hp;refine .ptr h1 h3 h3 (by simp) (by simp) (.cons (.pure hp.1) (.cons (.pure hp.2.1) (.cons (.pure hp.2.2.1) (.cons (.pure hp.2.2.2.1) (.cons (.pure rfl) (.cons ?_ .nil))))));unfold HY;rcases Nat.eq_zero_or_pos k.m.ops.length with e|e
 ·rw[e];exact .rY
 ·exact .slice h2 (by simp) h4 h4 (by simp) (by simp) (.pure (Ju f _)) (by omega)
theorem gy.at(h:gy s k r fr f):rd s r 0 1=So [k.cv]/\rd s r 1 1=So [k.ov]/\rd s r 2 1=So [k.bo]/\rd s r 3 1=So [k.gv]/\rd s r 4 1=So [iN k.mn]/\rd s r 5 1=So [.sl fr 0 k.m.ops.length 1 (So k.m.ops.length)]/\loadAt π 35 s (.p r 0)=So (.ag k.cells):=by
 have⟨al,h1⟩:=h.ck;have e:∀i,rd s r i 1=cut [k.cv,k.ov,k.bo,k.gv,iN k.mn,.sl fr 0 k.m.ops.length 1 (So k.m.ops.length)] i 1:=λi=>by rw[ai h1]
 refine⟨by simp_all,by simp_all,by simp_all,by simp_all,by simp_all,by simp_all,?_⟩;rw[cu tm wg,tY,ai h1];rfl
theorem AF(m fr:Nat)(hn:n<m):indexAddr π 50 (.sl fr 0 m 1 (So m)) (.i .i64 (n:Int))=So (.p fr n):=by have:=wH (P:=π) underlying50 dW eY fr 0 m n (So m) hn;grind
theorem P8(h:k.OK)(hn:n<k.m.ops.length):∃q,indexAddr π 31 k.ov (.i .i64 (n:Int))=So (.rp (k.m.ops[n].cells++q))/\∀st,loadAt π 87 st (.rp (k.m.ops[n].cells++q))=So (.ag k.m.ops[n].cells):=by have⟨r,ixo⟩:=h.o.at (P:=π) xn (k:=n) (by grind);rw[Q4]at ixo;exact⟨r,ixo,λst=>ei oL wh o9 rfl⟩
theorem VF(h:py o):(comes o).length<=2000001:=by have:=h.ops;have:=h.chs.1;unfold comes;grind
def jV(s:St)(k:bS)(r fr:Nat)(L:List Nat):Prop:=gy s k r fr λx=>L.count x
theorem jV.inc{L:List Nat}(h:jV s k r fr L){n:Nat}(hn:n<k.m.ops.length):∃s',wt s fr n [.i .i64 ((L.count n:Int)+1)]=So s'/\jV s' k r fr (L++[n]):=by have⟨⟨al,h1⟩,h2,h3,h4,h5⟩:=h;obtain⟨s',q1,q2,-,q3,q4⟩:=h2.inc hn;exact⟨s',q1,⟨al,q4 _ _ _ h5 h1⟩,q2,by grind,by grind,h5⟩
def vW(s:St)(k:bS)(r fr i:Nat):Prop:=jV s k r fr ((k.m.ops.take i).flatMap comes)
theorem aaH(h:k.Sm)(hS:∀o ∈ k.m.ops,kY (jo k.ds) (jS k.ds) strF arF k.m.bos o∧py o∧lU k.gl.length 65536 o)(hlow:∀(i:Nat) (o:bC),k.m.ops[i]? = So o→∀x ∈ comes o,x < i)(hcnt:∀x,(k.m.ops.flatMap comes).count x≤1)(hC:gy s k r fr (λ_=>0))(hN:5000000≤N) :
  ∃s',(Tw c N).call 29 [.p r 0] s=So (.b Tt,s')/\vW s' k r fr k.m.ops.length:=by
 cases N
 ·omega
 rename_i N;rw[dV rfl func29 rfl (Q1 rfl)];unfold aJ;obtain⟨-,r1,-⟩:=hC.at;have ln:=λst:St=>h.ok.o.cP (st:=st) xn
 rw[Q2]at ln;have hol:=h.o;simp[f29,r1,ln,ba];generalize hL:aQ _ _ _ _=L;obtain⟨t3,s3,rfl,H3⟩:=cD hL 0 k.m.ops.length
  (λi t s=>ab t 0=.p r 0/\ab t 11=k.ov/\ab t 12=.i .i64 (k.m.ops.length:Int)/\ab t 13=.i .i64 (i:Int)/\vW s k r fr i)
  (λt s=>vW s k r fr k.m.ops.length) (by omega)
  ⟨by simp,by simp,by simp,by simp,by simpa[vW,jV]using hC⟩
  (by
   rintro i t s hi ⟨i0,i11,i12,i13,iC⟩;have e3:(i:Int)<(k.m.ops.length:Int):=by omega
   have e4:wr .i64 ((i:Int)+1)=((i+1:Nat):Int):=by rw[aP (by omega) (by omega)];rfl
   have⟨q,ix,ld⟩:=P8 h.ok hi;have⟨k1,k2,k3⟩:=hS _ (Q3 hi);have hlo:=hlow i _ (Z0 hi);have et:(k.m.ops.take (i+1)).flatMap comes=(k.m.ops.take i).flatMap comes++comes k.m.ops[i]:=by rw[<-J8 hi,Z3];simp
   have hct:∀x,((k.m.ops.take (i+1)).flatMap comes).count x<=1:=λx=>by have:=hcnt x;rw[<-V7 (i+1) k.m.ops,Z3,J3]at this;omega
   rw[et]at hct;generalize k.m.ops[i]=o at*;have⟨s',y1,y2,y3,y4⟩:=bJ (s:=s) (z:=[.i .i64 0,.i .i64 0,.s [],.sn,.sn,.sn,.sn,.i .i64 0]) (cells:=o.cells) rfl o.sc;have sto:=aC oL o9 (s.aj [.i .i64 0,.i .i64 0,.s [],.sn,.sn,.sn,.sn,.i .i64 0]) s.next 0 o.cells rfl;obtain⟨-,-,-,-,-,-,-,-,ldo⟩:=vD y2;have iC':=gy.new iC y3;have rdk:=iC'.vH h.ok;have qs:(Tw c N).call 69 [.p r 0,.ag o.cells] s'=So (.b Tt,s'):=BW rfl rfl (by decide) (by omega) (.cons rdk (.cons (.pure (by simp[aE,bC.pure])) .nil)) (by simp[aA,aE,bC.pure,bS.mh h.ok qZ]) rfl λst=>acf h qZ k1 k2 (by omega)
   have ql:(Tw c N).call 70 [.p r 0,.ag o.cells,.i .i64 65536] s'=So (.b Tt,s'):=BW rfl rfl (by decide) (by omega) (.cons rdk (.cons (.pure (by simp[aE,bC.pure])) (.cons (.pure rfl) .nil))) (by simp[aA,aE,bC.pure,bS.mh h.ok qZ]) rfl λst=>RQ (most:=65536) h qZ k3 k2 (by omega)
   have qc:=λst:St=>My (c:=c) (st:=st) k2 (N:=N) (by omega)
   have hcl:=VF k2;simp[i0,i11,i12,i13,e3,ix,ld,aB,zw,sto,y1,ldo,qs,ql,qc,oM,ba];generalize hL:aQ _ _ _ _=L;obtain⟨t5,s5,rfl,z0,z11,z12,z13,H5⟩:=cD hL 2 (comes o).length
    (λj t s=>ab t 0=.p r 0/\ab t 11=k.ov/\ab t 12=.i .i64 (k.m.ops.length:Int)/\ab t 13=.i .i64 (i:Int)/\ab t 3=.i .i64 (i:Int)/\ab t 29=fu (comes o)/\ab t 30=.i .i64 ((comes o).length:Int)/\ab t 31=.i .i64 (j:Int)/\jV s k r fr ((k.m.ops.take i).flatMap comes++(comes o).take j))
    (λt s=>ab t 0=.p r 0/\ab t 11=k.ov/\ab t 12=.i .i64 (k.m.ops.length:Int)/\ab t 13=.i .i64 (i:Int)/\vW s k r fr (i+1)) (by omega)
    ⟨by simp[i0],by simp[i11],by simp[i12],by simp[i13],by simp,by simp,by simp,by simp,by rw[Y0,List.append_nil];exact iC'⟩
    (by
     rintro j t s hj ⟨j0,j11,j12,j13,j3,j29,j30,j31,jC⟩;have e3:(j:Int)<((comes o).length:Int):=by omega
     have e4:wr .i64 ((j:Int)+1)=((j+1:Nat):Int):=by rw[aP (by omega) (by omega)];rfl
     have⟨ad,ix,ld⟩:=DT (comes o) hj;have hx:=hlo _ (Q3 hj);have et:(comes o).take (j+1)=(comes o).take j++[(comes o)[j]]:=(J8 hj).symm;generalize (comes o)[j]=x at*;have hxl:x<k.m.ops.length:=by omega
     obtain⟨-,-,-,-,-,r5,-⟩:=gy.at jC;have rn:=qy.num (gy.cf jC) hxl;have⟨s',w1,w2⟩:=jV.inc jC hxl;have ixf:=AF k.m.ops.length fr hxl;have e5:¬i<=x:=by omega
     have e6:¬(i:Int)<=(x:Int):=by omega
     have e7:¬(x:Int)<0:=by omega
     have hcx1:((k.m.ops.take i).flatMap comes++(comes o).take j).count x<=1:=by have:=hct x;rw[<-V7 j (comes o),<-V8,J3]at this;omega
     generalize ((k.m.ops.take i).flatMap comes++(comes o).take j).count x=cx at*;have e8:wr .i64 ((cx:Int)+1)=(cx:Int)+1:=aP (by omega) (by omega);have sto:=bN dW eY s fr x (.i .i64 ((cx:Int)+1)) rfl;rw[V8,<-et]at w2;simp[j0,j3,j29,j30,j31,e3,e4,ix,ld,e6,e7,r5,ixf,rn,e8,sto,w1];exact⟨_,_,⟨rfl,rfl⟩,by simp[j0],by simp[j11],by simp[j12],by simp[j13],by simp[j3],by simp[j29],by simp[j30],by simp,w2⟩)
    (by rintro t s ⟨j0,j11,j12,j13,j3,j29,j30,j31,jC⟩;rw[J9,<-et]at jC;simp[j30,j31];exact⟨_,_,⟨rfl,rfl⟩,by simp[j0],by simp[j11],by simp[j12],by simp[j13],jC⟩)
   clear hL;simp[z13,e4];exact⟨_,_,⟨rfl,rfl⟩,by simp[z0],by simp[z11],by simp[z12],by simp,H5⟩)
  (by rintro t s ⟨i0,i11,i12,i13,iC⟩;simp[i12,i13];exact⟨_,_,⟨rfl,rfl⟩,iC⟩)
 clear hL;exact⟨s3,by simp[bf,aO],H3⟩
end
set_option maxHeartbeats 8000000
theorem LZ(h:k.OK)(hn:n<k.m.bos.length):∃q,indexAddr π 32 k.bo (.i .i64 (n:Int))=So (.rp (k.m.bos[n].cells++q))/\∀st,loadAt π 89 st (.rp (k.m.bos[n].cells++q))=So (.ag k.m.bos[n].cells):=by have⟨r,ixo⟩:=h.b.at (P:=π) rW (k:=n) (by simpa using hn);rw[Q4]at ixo;exact⟨r,ixo,λst=>ei DR T7 FH rfl⟩
theorem Ma{b:dS}(h:s.ce r=So (b.cells,g,al)):rd s r 0 1=So [.i .i64 (b.free:Int)]/\rd s r 1 1=So [.i .i64 (b.ps:Int)]/\rd s r 2 1=So [.i .i64 (b.slots:Int)]/\rd s r 3 1=So [.i .i64 (b.op:Int)]:=by
 have e:∀i,rd s r i 1=cut b.cells i 1:=λi=>by rw[ai h]
 exact⟨by rw[e];rfl,by rw[e];rfl,by rw[e];rfl,by rw[e];rfl⟩
theorem abH{gl:Nat}{ops:List bC}{b:dS}(h:sH gl ops b){j:Nat}(hj:j∈lM (fy (dI ops) b.op)):∃hl:j<ops.length,lU gl b.slots ops[j]:=by have⟨o,h1,h2⟩:=h.ts.QO ((BO _).mem_iff.1 hj);have⟨h3,h4⟩:=J4.1 h1;exact⟨h3,by rw[h4];exact h2⟩
theorem UK(h:k.Sm)(hL:∀o∈k.m.ops,py o)(hC:mz (dI k.m.ops))(hB:∀b∈k.m.bos,b.op<k.m.ops.length/\sH k.gl.length k.m.ops b/\(fy (dI k.m.ops) b.op).length<=1000000)(hone:∀x,lV k.m x<=1)(hK:vW s k r fr k.m.ops.length)(hN:6000000<=N):
  ∃s' L,(Tw c N).call 30 [.p r 0] s=So (.b Tt,s')/\jV s' k r fr L:=by
 cases N
 ·omega
 rename_i N;rw[dV rfl func30 rfl (Q1 rfl)];unfold aJ;unfold vW at hK;rw[J9]at hK;obtain⟨-,-,r2,-⟩:=gy.at hK;have ln:=λst:St=>h.ok.b.cP (st:=st) rW
 rw[Q2]at ln;have hbl:=h.b;have hol:=h.o;simp[f30,r2,ln,ba];generalize hL':aQ _ _ _ _=L;obtain⟨t3,s3,rfl,x0,H3⟩:=cD hL' 0 k.m.bos.length
  (λi t s=>ab t 0=.p r 0/\ab t 15=k.bo/\ab t 16=.i .i64 (k.m.bos.length:Int)/\ab t 17=.i .i64 (i:Int)/\jV s k r fr (k.m.ops.flatMap comes++(k.m.bos.take i).map (·.op)))
  (λt s=>ab t 0=.p r 0/\jV s k r fr (k.m.ops.flatMap comes++k.m.bos.map (·.op))) (by omega)
  ⟨by simp,by simp,by simp,by simp,by rw[Y0];simpa using hK⟩
  (by
   rintro i t s hi ⟨i0,i15,i16,i17,iC⟩;have e3:(i:Int)<(k.m.bos.length:Int):=by omega
   have e4:wr .i64 ((i:Int)+1)=((i+1:Nat):Int):=by rw[aP (by omega) (by omega)];rfl
   have⟨q,ix,ld⟩:=LZ h.ok hi;obtain⟨hop,hbo,-⟩:=hB _ (Q3 hi);have et:(k.m.bos.take (i+1)).map (·.op)=(k.m.bos.take i).map (·.op)++[k.m.bos[i].op]:=by rw[<-J8 hi,J6];rfl
   have hct:(k.m.ops.flatMap comes++(k.m.bos.take i).map (·.op)).count k.m.bos[i].op<=1:=by
    have:=hone k.m.bos[i].op;unfold lV at this;have e2:k.m.bos.map (·.op)=(k.m.bos.take i).map (·.op)++(k.m.bos.drop i).map (·.op):=by rw[<-J6,V7]
    rw[e2,J3]at this;rw[J3];omega
   rw[et];generalize k.m.bos[i]=b at*;have⟨s',y1,y2,y3,y4⟩:=bJ (s:=s) (z:=[.i .i64 0,.i .i64 0,.i .i64 0,.i .i64 0]) (cells:=b.cells) rfl b.sc;have sto:=aC DR FH (s.aj [.i .i64 0,.i .i64 0,.i .i64 0,.i .i64 0]) s.next 0 b.cells rfl;have⟨b0,b1,b2,b3⟩:=Ma y2;have iC':jV s' k r fr _:=gy.new iC y3;obtain⟨-,a1,-,-,-,a5,-⟩:=gy.at iC';have lno:=λst:St=>h.ok.o.cP (st:=st) xn
   rw[Q2]at lno;have hle:=hbo.le;have hhi:=hbo.hi;have hps:=hbo.p;have f1:¬(b.op:Int)<0:=by omega
   have f2:¬(k.m.ops.length:Int)<=(b.op:Int):=by omega
   have f2':¬k.m.ops.length<=b.op:=by omega
   have f3:¬(b.free:Int)<0:=by omega
   have f4:¬(b.ps:Int)<0:=by omega
   have f5:¬(32:Int)<(b.ps:Int):=by omega
   have f6:¬(65536:Int)<(b.slots:Int):=by omega
   have f7:¬(65536:Int)<(b.free:Int):=by omega
   have f8:wr .i64 ((b.free:Int)+(b.ps:Int))=((b.free+b.ps:Nat):Int):=by rw[aP (by omega) (by omega)];rfl
   have f9:¬(b.slots:Int)<((b.free+b.ps:Nat):Int):=by omega
   have rn:=qy.num (gy.cf iC') hop;have⟨s'',w1,w2⟩:=jV.inc iC' hop;rw[V8]at w2;have ixf:=AF k.m.ops.length fr hop;generalize (k.m.ops.flatMap comes++(k.m.bos.take i).map (·.op)).count b.op=cx at*;have e8:wr .i64 ((cx:Int)+1)=(cx:Int)+1:=aP (by omega) (by omega);have sto':=bN dW eY s' fr b.op (.i .i64 ((cx:Int)+1)) rfl;generalize b.free+b.ps=bfp at*;simp[i15,i16,i17,e3,ix,ld,aB,FU,sto,y1,aY];rw[bP (by kernel_rfl)];simp[i0,b0,b1,b2,b3,a1,lno,f1,f2,f3,f4,f5,f6,f7,f8,f9,aY];rw[bP (by kernel_rfl)];simp[i0,i17,e4,b3,a5,ixf,rn,e8,sto',w1];exact⟨_,_,⟨rfl,rfl⟩,by simp[i0],by simp[i15],by simp[i16],by simp,by simpa using w2⟩)
  (by rintro t s ⟨i0,i15,i16,i17,iC⟩;rw[J9]at iC;simp[i16,i17];exact⟨_,_,⟨rfl,rfl⟩,by simp[i0],iC⟩)
 clear hL';obtain⟨Lc,hLc⟩:∃L,k.m.ops.flatMap comes++k.m.bos.map (·.op)=L:=⟨_,rfl⟩;have hcc:∀x,Lc.count x<=1:=λx=>by have:=hone x;rw[<-hLc,J3];exact this
 rw[hLc]at H3;obtain⟨-,-,-,-,-,a5,-⟩:=gy.at H3;have lnf:=λst:St=>bg (P:=π) (st:=st) (v:=.sl fr 0 k.m.ops.length 1 (So k.m.ops.length)) underlying50 rfl rfl
 simp[x0,a5,lnf,ba];generalize hL':aQ _ _ _ _=L;obtain⟨t4,s4,rfl,x0',H4⟩:=cD hL' 2 k.m.ops.length
  (λi t s=>ab t 0=.p r 0/\ab t 84=.sl fr 0 k.m.ops.length 1 (So k.m.ops.length)/\ab t 85=.i .i64 (k.m.ops.length:Int)/\ab t 86=.i .i64 (i:Int)/\jV s k r fr Lc)
  (λt s=>ab t 0=.p r 0/\jV s k r fr Lc) (by omega)
  ⟨by simp[x0],by simp,by simp,by simp,H3⟩
  (by
   rintro i t s hi ⟨i0,i84,i85,i86,iC⟩;have e3:(i:Int)<(k.m.ops.length:Int):=by omega
   have e4:wr .i64 ((i:Int)+1)=((i+1:Nat):Int):=by rw[aP (by omega) (by omega)];rfl
   have rn:=qy.num (gy.cf iC) hi;have ixf:=AF k.m.ops.length fr hi;have:=hcc i;generalize Lc.count i=cx at*;have e5:¬(1:Int)<(cx:Int):=by omega
   simp[i84,i85,i86,e3,e4,ixf,rn,e5];exact⟨_,_,⟨rfl,rfl⟩,by simp[i0],by simp[i84],by simp[i85],by simp,iC⟩)
  (by rintro t s ⟨i0,i84,i85,i86,iC⟩;simp[i85,i86];exact⟨_,_,⟨rfl,rfl⟩,by simp[i0],iC⟩)
 clear hL';obtain⟨-,-,r2',-⟩:=gy.at H4;simp[x0',r2',ln,ba];generalize hL':aQ _ _ _ _=L;obtain⟨t5,s5,rfl,H5⟩:=cD hL' 4 k.m.bos.length
  (λi t s=>ab t 0=.p r 0/\ab t 97=k.bo/\ab t 98=.i .i64 (k.m.bos.length:Int)/\ab t 99=.i .i64 (i:Int)/\jV s k r fr Lc)
  (λt s=>jV s k r fr Lc) (by omega)
  ⟨by simp[x0'],by simp,by simp,by simp,H4⟩
  (by
   rintro i t s hi ⟨i0,i97,i98,i99,iC⟩;have e3:(i:Int)<(k.m.bos.length:Int):=by omega
   have e4:wr .i64 ((i:Int)+1)=((i+1:Nat):Int):=by rw[aP (by omega) (by omega)];rfl
   have⟨q,ix,ld⟩:=LZ h.ok hi;have⟨hop,hbo,hrl⟩:=hB _ (Q3 hi);generalize k.m.bos[i]=b at*;have⟨s',y1,y2,y3,y4⟩:=bJ (s:=s) (z:=[.i .i64 0,.i .i64 0,.i .i64 0,.i .i64 0]) (cells:=b.cells) rfl b.sc;have sto:=aC DR FH (s.aj [.i .i64 0,.i .i64 0,.i .i64 0,.i .i64 0]) s.next 0 b.cells rfl;obtain⟨-,-,b2,b3⟩:=Ma y2;have iC':jV s' k r fr _:=gy.new iC y3;obtain⟨-,a1,-,-,-,-,ldk⟩:=gy.at iC';have qr:=λst:St=>QQ (c:=c) (st:=st) h hL hC hop hrl (N:=N) (by omega)
   have hsl:∀j∈lM (fy (dI k.m.ops) b.op),∃hl:j<k.m.ops.length,lU k.gl.length b.slots k.m.ops[j]:=λj hj=>abH hbo hj
   have hll:(lM (fy (dI k.m.ops) b.op)).length<=1000000:=by rw[(BO _).length_eq];exact hrl
   generalize lM (fy (dI k.m.ops) b.op)=R at*;simp[i97,i98,i99,e3,ix,ld,aB,FU,sto,y1,aY];rw[bP (by kernel_rfl)];simp[i0,ldk,b3,qr,oM,ba];generalize hL':aQ _ _ _ _=L;obtain⟨t6,s6,rfl,z0,z97,z98,z99,H6⟩:=cD hL' 6 R.length
    (λj t u=>ab t 0=.p r 0/\ab t 97=k.bo/\ab t 98=.i .i64 (k.m.bos.length:Int)/\ab t 99=.i .i64 (i:Int)/\ab t 8=.p s.next 0/\ab t 109=fu R/\ab t 110=.i .i64 (R.length:Int)/\ab t 111=.i .i64 (j:Int)/\u=s')
    (λt u=>ab t 0=.p r 0/\ab t 97=k.bo/\ab t 98=.i .i64 (k.m.bos.length:Int)/\ab t 99=.i .i64 (i:Int)/\jV u k r fr Lc) (by omega)
    ⟨by simp[i0],by simp[i97],by simp[i98],by simp[i99],by simp,by simp,by simp,by simp,rfl⟩
    (by
     rintro j t u hj ⟨j0,j97,j98,j99,j8,j109,j110,j111,rfl⟩;have e3:(j:Int)<(R.length:Int):=by omega
     have e4:wr .i64 ((j:Int)+1)=((j+1:Nat):Int):=by rw[aP (by omega) (by omega)];rfl
     have⟨ad,ix,ld⟩:=DT R hj;have⟨hxl,hs⟩:=hsl _ (Q3 hj);generalize R[j]=x at*;have⟨q,ixo,ldo⟩:=P8 h.ok hxl;have hlm:=hL _ (Q3 hxl);generalize k.m.ops[x]=o at*;have ql:(Tw c N).call 70 [.p r 0,.ag o.cells,.i .i64 (b.slots:Int)] u=So (.b Tt,u):=BW rfl rfl (by decide) (by omega) (.cons (gy.vH iC' h.ok) (.cons (.pure (by simp[aE,bC.pure])) (.cons (.pure rfl) .nil))) (by simp[aA,aE,bC.pure,bS.mh h.ok qZ]) rfl λst=>RQ h qZ hs hlm (by omega)
     simp[j109,j110,j111,e3,ix,ld,aY];rw[bP (by kernel_rfl)];simp[j0,j8,j111,e4,a1,ixo,ldo,b2,ql];exact⟨_,_,⟨rfl,rfl⟩,by simp[j0],by simp[j97],by simp[j98],by simp[j99],by simp[j8],by simp[j109],by simp[j110],by simp,rfl⟩)
    (by rintro t u ⟨j0,j97,j98,j99,j8,j109,j110,j111,rfl⟩;simp[j110,j111];exact⟨_,_,⟨rfl,rfl⟩,by simp[j0],by simp[j97],by simp[j98],by simp[j99],iC'⟩)
   clear hL';simp[z99,e4];exact⟨_,_,⟨rfl,rfl⟩,by simp[z0],by simp[z97],by simp[z98],by simp,H6⟩)
  (by rintro t s ⟨i0,i97,i98,i99,iC⟩;simp[i98,i99];exact⟨_,_,⟨rfl,rfl⟩,iC⟩)
 clear hL';exact⟨s5,by simp[bf,aO],Lc,H5⟩
theorem XW(h:k.Sm)(hg:∀g∈k.gl,qE (jo k.ds) k.m.bos g.k g.n g.rs/\(∀x∈g.rs,kz k.gl.length 0 x)/\g.rs.length<=1000000/\(g.k=1\/g.k=2->g.rs=[]))(hm:k.mn<k.gl.length){f:Nat->Nat}(hC:gy s k r fr f)(hN:6000000<=N):∃s',(Tw c N).call 31 [.p r 0] s=So (.b Tt,s'):=by
 cases N
 ·omega
 rename_i N;rw[dV rfl func31 rfl (Q1 rfl)];unfold aJ;obtain⟨-,-,-,r3,-,-,-⟩:=hC.at;have ln:=λst:St=>h.ok.g.cP (st:=st) xp
 rw[Q2]at ln;have hgl:=h.g;simp[f31,r3,ln,ba];generalize hL:aQ _ _ _ _=L;obtain⟨t3,s3,rfl,x0,H3⟩:=cD hL 0 k.gl.length
  (λi t s=>ab t 0=.p r 0/\ab t 9=k.gv/\ab t 10=.i .i64 (k.gl.length:Int)/\ab t 11=.i .i64 (i:Int)/\gy s k r fr f)
  (λt s=>ab t 0=.p r 0/\gy s k r fr f) (by omega)
  ⟨by simp,by simp,by simp,by simp,hC⟩
  (by
   rintro i t s hi ⟨i0,i9,i10,i11,iC⟩;have e3:(i:Int)<(k.gl.length:Int):=by omega
   have e4:wr .i64 ((i:Int)+1)=((i+1:Nat):Int):=by rw[aP (by omega) (by omega)];rfl
   have⟨q,ix⟩:=h.ok.g.at (P:=π) xp (k:=i) (by simpa using hi);rw[Q4]at ix;have⟨k1,k2,k3,k4⟩:=hg _ (Q3 hi);generalize k.gl[i]=g at*;have ld:∀st,loadAt π 42 st (.rp (g.cells++q))=So (.ag g.cells):=λst=>ei lI sT lN rfl
   have⟨s',y1,y2,y3,y4⟩:=bJ (s:=s) (z:=[.s [],.i .i64 0,.i .i64 0,.sn]) (cells:=g.cells) rfl g.sc;have sto:=aC lI lN (s.aj [.s [],.i .i64 0,.i .i64 0,.sn]) s.next 0 g.cells rfl;have g1:rd s' s.next 1 1=So [.i .i64 (g.k:Int)]:=by rw[ai y2];rfl
   have g2:rd s' s.next 2 1=So [.i .i64 (g.n:Int)]:=by rw[ai y2];rfl
   have g3:rd s' s.next 3 1=So [bz g.rs]:=by rw[ai y2];rfl
   have iC':=iC.new y3;have qm:(Tw c N).call 72 [.p r 0,.i .i64 (g.k:Int),.i .i64 (g.n:Int),bz g.rs] s'=So (.b Tt,s'):=BW rfl rfl (by decide) (by omega) (.cons (iC'.vH h.ok) (.cons (.pure rfl) (.cons (.pure rfl) (.cons (.pure (qd _)) .nil)))) (by simp[aA,aE,qd,bS.mh h.ok qZ]) rfl λst=>Ph h qZ k1 (by omega)
   have qr:(Tw c N).call 73 [.p r 0,bz g.rs,.i .i64 0] s'=So (.b Tt,s'):=BW rfl rfl (by decide) (by omega) (.cons (iC'.vH h.ok) (.cons (.pure (qd _)) (.cons (.pure rfl) .nil))) (by simp[aA,aE,qd,bS.mh h.ok qZ]) rfl λst=>He (most:=0) h qZ k2 k3 (by omega)
   by_cases h1:g.k=1
   ·have e:=k4 (.inl h1);rw[h1]at g1 qm;have g1:rd s' s.next 1 1=So [.i .i64 1]:=g1;have qm:(Tw c N).call 72 [.p r 0,.i .i64 1,.i .i64 (g.n:Int),bz g.rs] s'=So (.b Tt,s'):=qm;rw[e]at g3 qm qr;simp[i0,i9,i10,i11,e3,e4,ix,ld,aB,sy,sto,y1,g1,g2,g3,qm,qr,oX];exact⟨_,_,⟨rfl,rfl⟩,by simp[i0],by simp[i9],by simp[i10],by simp,iC'⟩
   by_cases h2:g.k=2
   ·have e:=k4 (.inr h2);rw[h2]at g1 qm;have g1:rd s' s.next 1 1=So [.i .i64 2]:=g1;have qm:(Tw c N).call 72 [.p r 0,.i .i64 2,.i .i64 (g.n:Int),bz g.rs] s'=So (.b Tt,s'):=qm;rw[e]at g3 qm qr;simp[i0,i9,i10,i11,e3,e4,ix,ld,aB,sy,sto,y1,g1,g2,g3,qm,qr,oX];exact⟨_,_,⟨rfl,rfl⟩,by simp[i0],by simp[i9],by simp[i10],by simp,iC'⟩
   have h1':¬(g.k:Int)=1:=by omega
   have h2':¬(g.k:Int)=2:=by omega
   simp[i0,i9,i10,i11,e3,e4,ix,ld,aB,sy,sto,y1,g1,g2,g3,qm,qr,h1',h2'];exact⟨_,_,⟨rfl,rfl⟩,by simp[i0],by simp[i9],by simp[i10],by simp,iC'⟩)
  (by rintro t s ⟨i0,i9,i10,i11,iC⟩;simp[i10,i11];exact⟨_,_,⟨rfl,rfl⟩,by simp[i0],iC⟩)
 clear hL;obtain⟨-,-,-,r3',r4,-,-⟩:=H3.at;have e1:(0:Int)<=(k.mn:Int):=by omega
 have e2:(k.mn:Int)<(k.gl.length:Int):=by omega
 refine⟨s3,?_⟩;rw[dJ]at r4;simp[aY];rw[bP (by kernel_rfl)];simp[x0,r3',r4,ln,hm]
def oP:aa:=.cons [.s [109,97,105,110]] (.mk 2 [] 0 .sn (.nil Tt) (.nil Tt) (.nil Tt)) (.nil Tt)
def wO:List AV:=[.s [109,97,105,110],.i .i64 2,.s [],.i .i64 0,.sn,.sn,.sn,.sn]
theorem ad8:eC π 93=true:=by kernel_rfl
theorem UA:cI π 47 [(0,.i .i64 2)]=λst=>So (.ag [.i .i64 2,.s [],.i .i64 0,.sn,.sn,.sn,.sn],st):=by kernel_rfl
theorem UB:cI π 49 [(0,.s [109,97,105,110]),(1,.ag [.i .i64 2,.s [],.i .i64 0,.sn,.sn,.sn,.sn])]=λst=>So (.ag wO,st):=by kernel_rfl
theorem Uz(a:AV)(ha:a.cells=So [a])(f:Nat):cI π 25 [(0,a),(1,.sl f 0 1 8 (So 1))]=λst=>So (.ag [a,.sl f 0 1 8 (So 1)],st):=by have⟨fs,h1,h2,h3⟩:=I4;funext st;unfold cI;rw[h1];simp only[xK,jc,fill,h2,h3,ha];rfl
theorem aei:bt π 93=So [.sn,.sn,.sn,.sn,.i .i64 0,.sn]:=by kernel_rfl
theorem aa8:∃fs,π.underlying 93=So (.struct fs)/\gP π fs 0=So (0,5)/\gP π fs 1=So (5,1):=⟨_,underlying93,by kernel_rfl,by kernel_rfl⟩
theorem UE(a b d e:AV)(m f n:Nat):cI π 93 [(0,.ag [a,b,d,e,iN m]),(1,.sl f 0 n 1 (So n))]=λst=>So (.ag [a,b,d,e,iN m,.sl f 0 n 1 (So n)],st):=by have⟨fs,h1,h2,h3⟩:=aa8;funext st;unfold cI;rw[h1];simp only[aei,jc,fill,h2,h3,gh];rfl
theorem EF{ty:TypeId}{ps:Array (Nat×Operand)}{L:List (Nat×AV)}(hw:eC π ty=Tt)(hL:eB t ps.toList=L)(h:cI π ty L=λst=>So (v,st)):cO (.build ty ps) π S t st=So (v,st):=by
 show @Bool.rec (λ_=>aD) No (cI π ty (eB t ps.toList) st) (eC π ty)=_
 rw[hw,hL,h]
set_option maxHeartbeats 8000000
structure bS.Good(k:bS):Prop where
 sm:k.Sm
 sh:∀o∈k.m.ops,kY (jo k.ds) (jS k.ds) strF arF k.m.bos o/\py o/\lU k.gl.length 65536 o
 ex:eu ⟨[],[]⟩ k.m []
 bo:∀b∈k.m.bos,sH k.gl.length k.m.ops b
 gl:∀g∈k.gl,qE (jo k.ds) k.m.bos g.k g.n g.rs/\(∀x∈g.rs,kz k.gl.length 0 x)/\g.rs.length<=1000000/\(g.k=1\/g.k=2->g.rs=[])
 mn:k.mn<k.gl.length
theorem abU(n:Nat):rep n [AV.i .i64 0]=(List.range n).map λ_=>iN 0:=by
 have:∀n,rep n [AV.i .i64 0]=List.replicate n (iN 0):=λn=>by
  induction n with
  |zero=>rfl
  |succ n ih=>rw[List.replicate_succ,<-ih];rfl
 rw[this,List.map_const',List.length_range]
theorem PC{x y:Operand}(hx:ah t x=.i .i64 (n:Int))(hy:ah t y=.i .i64 (n:Int))(hn:n<=1000000):cO (.makeSlice 50 x y) π S t st=So (.sl st.next 0 n 1 (So n),st.aj ((List.range n).map λ_=>iN 0)):=by
 show rH 50 x y π S t st=_
 unfold rH;rw[hx,hy,rf.el];have h1:gO (AV.i .i64 (n:Int))=So n:=rfl;have h2:(Nat.ble n n&&(Nat.ble n 1073741824&&Nat.ble (n*jZ π 3) 1073741824))=true:=by have hb:=rf.by2;rw[Z4 (Nat.le_refl n),Z4 (show n<=1073741824 by omega),Z4 (J1 (Nat.mul_le_mul hn hb) (by decide))];rfl
 simp only[h1,S6,eY,h2,abU]
theorem Mv(h:k.Good)(hK:qu c k.cv oP 0)(hN:7000000<=N):(Tw c N).call 11 [.ag k.cells] st=So (.i .i64 0,st):=by
 cases N
 ·omega
 rename_i N;refine eS (X:=[]) rfl rfl (.inr (by decide)) (.pure (by simp[aA,aE,h.sm.ok.pure])) func11 rfl (Q1 rfl) rfl ?_;unfold aJ;have hol:=h.sm.o;have c1:=bq (st:=ay) k.cells;have n1:(ay.aj k.cells).next=1:=rfl;obtain⟨s1,hs1⟩:∃s,ay.aj k.cells=s:=⟨_,rfl⟩;rw[hs1]at c1 n1;have e0:ay.next=0:=rfl;rw[e0]at c1;have k2:=Kp.aj (st:=s1) [] [] wO;have c2:=bq (st:=s1) wO;have n2:(s1.aj wO).next=2:=by show s1.next+1=_;omega
 have bo:=λ(t:Tr AV) (h:ah t (.tmp 8)=.ag wO)=>ef (S:=Tw c N) (t:=t) (st:=s1) wF (x:=.tmp 8) (cs:=wO) (by rw[h];exact gh _) rfl
 obtain⟨s2,hs2⟩:∃s,s1.aj wO=s:=⟨_,rfl⟩;rw[hs2]at k2 c2 n2;rw[n1]at c2;have cvc:k.cv.cells=So [k.cv]/\bR k.cv=true:=⟨by rcases h.sm.ok.c.1 with ⟨e,-⟩|e<;>rw[e]<;>simp,by rcases h.sm.ok.c.1 with ⟨e,-⟩|e<;>rw[e]<;>rfl⟩;have⟨s4,y1,y2,y3,y4⟩:=bJ (s:=s2) (z:=[.sn,.sn]) (cells:=[k.cv,.sl 1 0 1 8 (So 1)]) rfl (by simp[cvc.2]);have sto:=aC nO gC (s2.aj [.sn,.sn]) s2.next 0 [k.cv,.sl 1 0 1 8 (So 1)] rfl;have n4:s4.next=3:=by
  have:=SZ y1;rw[this];show s2.next+1=_
  omega
 have k5:=Kp.aj (st:=s4) [] [] ((List.range k.m.ops.length).map λ_=>iN 0);have c5:=bq (st:=s4) ((List.range k.m.ops.length).map λ_=>iN 0);have n5:(s4.aj ((List.range k.m.ops.length).map λ_=>iN 0)).next=4:=by show s4.next+1=_;omega
 have mk:=λ(t:Tr AV) (h:ah t (.tmp 14)=.i .i64 (k.m.ops.length:Int))=>PC (S:=Tw c N) (t:=t) (st:=s4) (x:=.tmp 14) (y:=.tmp 14) h h hol
 obtain⟨s5,hs5⟩:∃s,s4.aj ((List.range k.m.ops.length).map λ_=>iN 0)=s:=⟨_,rfl⟩;rw[hs5]at k5 c5 n5;rw[n4]at c5;have k6:=Kp.aj (st:=s5) [] [] [k.cv,k.ov,k.bo,k.gv,iN k.mn,.sl 3 0 k.m.ops.length 1 (So k.m.ops.length)];have c6:=bq (st:=s5) [k.cv,k.ov,k.bo,k.gv,iN k.mn,.sl 3 0 k.m.ops.length 1 (So k.m.ops.length)];have n6:(s5.aj [k.cv,k.ov,k.bo,k.gv,iN k.mn,.sl 3 0 k.m.ops.length 1 (So k.m.ops.length)]).next=5:=by show s5.next+1=_;omega
 obtain⟨s6,hs6⟩:∃s,s5.aj [k.cv,k.ov,k.bo,k.gv,iN k.mn,.sl 3 0 k.m.ops.length 1 (So k.m.ops.length)]=s:=⟨_,rfl⟩;rw[hs6]at k6 c6 n6;rw[n5]at c6;have c1a:=k2.ce c1 (by omega) (by omega) (by simp) (by simp);have c14:=y3.ce c1a (by omega) (by omega) (by simp) (by simp);have c16:=k6.ce (k5.ce c14 (by omega) (by omega) (by simp) (by simp)) (by omega) (by omega) (by simp) (by simp);have r0:rd s1 0 0 1=So [k.cv]:=by rw[ai c1];rfl
 have ld4:loadAt π 35 s4 (.p 0 0)=So (.ag k.cells):=by rw[cu tm wg,tY,ai c14];rfl
 have ld5:loadAt π 35 s5 (.p 0 0)=So (.ag k.cells):=by rw[cu tm wg,tY,ai (k5.ce c14 (by omega) (by omega) (by simp) (by simp))];rfl
 have r41:rd s4 0 1 1=So [k.ov]:=by rw[ai c14];rfl
 have r61:rd s6 0 1 1=So [k.ov]:=by rw[ai c16];rfl
 have ln:=λst:St=>h.sm.ok.o.cP (st:=st) xn
 rw[Q2]at ln;have y26:=k6.ce (k5.ce y2 (by omega) (by omega) (by simp) (by simp)) (by omega) (by omega) (by simp) (by simp);have ld6:loadAt π 25 s6 (.p s2.next 0)=So (.ag [k.cv,.sl 1 0 1 8 (So 1)]):=by rw[cu nO zQ,gC,ai y26];rfl
 have c26:=k6.ce (k5.ce (y3.ce c2 (by omega) (by omega) (by simp) (by simp)) (by omega) (by omega) (by simp) (by simp)) (by omega) (by omega) (by simp) (by simp);have hcp:=h.sm.ok.c.pure;have q16:(Tw c N).call 16 [.ag [k.cv,.sl 1 0 1 8 (So 1)]] s6=So (.i .i64 0,s6):=hK s6 _ N (by omega) (.ag (.cons (.pure hcp) (.cons (.slice c26 rfl (by omega) (by omega) (by simp) (by simp) (.pure rfl) (by decide)) .nil)));have C6:gy s6 k 4 3 (λ_=>0):=⟨⟨_,c6⟩,⟨_,k6.ce c5 (by omega) (by omega) (by simp) (by simp)⟩,by omega,by omega,by decide⟩;have hX:=h.ex;have hone:∀x,lV k.m x<=1:=λx=>by rw[hX.one x];split<;>omega
 have⟨s7,q29,H7⟩:=aaH (c:=c) (N:=N) h.sm h.sh (λi o hi=>hX.low i o (Q7 _) hi) (λx=>by have:=hone x;unfold lV at this;omega) C6 (by omega);have⟨s8,L,q30,H8⟩:=UK (c:=c) (N:=N) h.sm (λo ho=>(h.sh o ho).2.1) hX.IA (λb hb=>by obtain⟨i,hi,rfl⟩:=Y1 hb;exact⟨hX.bo i _ (Q7 _) (Z0 hi),h.bo _ hb,J1 (hX.HN hb) hol⟩) hone H7 (by omega);have⟨s9,q31⟩:=XW (c:=c) (N:=N) h.sm h.gl h.mn H8 (by omega);have b47:=λ(S:Self) (t:Tr AV) (st:St)=>EF (S:=S) (t:=t) (st:=st) (ps:=#[(0,.const (.int .i64 2))]) abX rfl UA
 have b49:=λ(S:Self) (st:St) (t:Tr AV) (h:ah t (.tmp 7)=.ag [.i .i64 2,.s [],.i .i64 0,.sn,.sn,.sn,.sn]) (b:ByteArray) (hb:ah t (.const (.string b))=.s [109,97,105,110])=>EF (S:=S) (t:=t) (st:=st) (ps:=#[(0,.const (.string b)),(1,.tmp 7)]) SY (by simp only[eB,V9,X0,h,hb]) UB
 have b25:=λ(S:Self) (st:St) (t:Tr AV) (h1:ah t (.tmp 6)=k.cv) (h2:ah t (.tmp 9)=.sl 1 0 1 8 (So 1))=>EF (S:=S) (t:=t) (st:=st) (ps:=#[(0,.tmp 6),(1,.tmp 9)]) KC (by simp only[eB,V9,X0,h1,h2]) (Uz k.cv cvc.1 1)
 have b93:=λ(S:Self) (st:St) (t:Tr AV) (h1:ah t (.tmp 11)=.ag k.cells) (h2:ah t (.tmp 15)=.sl 3 0 k.m.ops.length 1 (So k.m.ops.length))=>EF (S:=S) (t:=t) (st:=st) (ps:=#[(0,.tmp 11),(1,.tmp 15)]) ad8 (by simp only[eB,V9,X0,h1,h2];rfl) (UE k.cv k.ov k.bo k.gv k.mn 3 k.m.ops.length)
 have zC25':=xK;have hle:¬(1048576:Int)<(k.m.ops.length:Int):=by omega
 have hle':¬1048576<k.m.ops.length:=by omega
 simp[f11,e0,hs1,r0,b47,b49,bo,hs2,n1,b25,aB,zC25',sto,y1,aY];rw[ft (fl:=[(0,5)])]
 rotate_left
 ·kernel_rfl
 ·intro R hR;simp[ld4,r41,ln,mk,hs5,n4,b93,hs6,n5]at hR;subst hR;simp only[Z9,K8,V0,];exact cZ rfl rfl rfl (s:=s5) (by simp[ld5])
 simp[ld4,r41,ln,mk,hs5,n4,b93,hs6,n5,r61,hle,ld6,q16,q29,q30,q31]
theorem adS(h:k.Good)(hK:qu c k.cv oP 0)(hi:i<k.m.bos.length)(hN:8000000<=N):∃s',(Tw c N).call 12 [.ag k.cells,.i .i64 (i:Int)] st=So (.tu [fu (lM (fy (dI k.m.ops) k.m.bos[i].op)),.i .i64 0],s')/\Kp [] [] st s':=by
 cases N
 ·omega
 rename_i N;rw[dV rfl func12 rfl (Q1 rfl)];unfold aJ;have k1:=Kp.aj (st:=st) [] [] k.cells;have c1:=bq (st:=st) k.cells;obtain⟨s1,hs1⟩:∃s,st.aj k.cells=s:=⟨_,rfl⟩;rw[hs1]at c1 k1;refine⟨s1,?_,k1⟩;have ld:loadAt π 35 s1 (.p st.next 0)=So (.ag k.cells):=by rw[cu tm wg,tY,ai c1];rfl
 have r2:rd s1 st.next 2 1=So [k.bo]:=by rw[ai c1];rfl
 have q:=λst:St=>Mv (c:=c) (st:=st) h hK (N:=N) (by omega)
 have ln:=λst:St=>h.sm.ok.b.cP (st:=st) rW
 rw[Q2]at ln;have⟨r,ix⟩:=h.sm.ok.b.at (P:=π) rW (k:=i) (by simpa using hi);rw[Q4]at ix;have hm:=Q3 hi;have hX:=h.ex;have qr:=λst:St=>QQ (c:=c) (st:=st) h.sm (λo ho=>(h.sh o ho).2.1) hX.IA (a:=k.m.bos[i].op) (hX.bo i _ (Q7 _) (Z0 hi)) (J1 (hX.HN hm) h.sm.o) (N:=N) (by omega)
 generalize k.m.bos[i]=b at*;have b3:oneOf (takeN 1 (List.drop 3 (b.cells++r)))=So (.i .i64 (b.op:Int)):=rfl;have e1:¬(i:Int)<0:=by omega
 have e2:¬k.m.bos.length<=i:=by omega
 have e2':¬(k.m.bos.length:Int)<=(i:Int):=by omega
 simp[f12,hs1,ld,q,r2,ln,e1,e2',aY];rw[bP (by kernel_rfl)];simp[ld,r2,ix,b3,qr]
def Jr:List ae:=match Js with
 |some (.m r,s)=>match s.get r with
  |some (.mp es _)=>es.map λe=>fo e.1
  |_=>[]
 |_=>[]
def OG(l:ae):Bool:=match rU (fJ.call 94 [.s l] ay),rU (fJ.call 91 [.s l] ay)with
 |some (.i _ n),So (.i _ a)=>decide (0<=n)&&decide (n<=a)
 |_,_=>Ff
theorem YH:(Jr.all OG)=true:=by kernel_rfl
theorem Nv{l:ae}:∀{es:List (AV×AV×Nat)}{n i:Nat}{v:AV},AM es=Tt->find (.s l) es n=So (So (i,v))->l∈es.map λe=>fo e.1
 |[],n,i,v,_,h=>by cases h
 |(.s x,.i .i64 w,c)::es,n,i,v,hk,h=>by
  have he:iu (.s l) (.s x)=So (leq l x):=rfl;by_cases hx:leq l x=Tt
  ·rw[Iw.1 hx];exact Z5 ..
  ·have hx':leq l x=false:=by grind
   simp only[find,he,hx']at h;exact Z6 _ (Nv hk h)
theorem Uj(l:ae):arF l = -1\/l∈Jr:=by
 have⟨s,hs⟩:=(CF l).choose_spec;have hs:ib π uy 199 91 [.s l] ay=So (.i .i64 (arF l),s):=hs;have h2:=QD;unfold Bi at h2;unfold Jr;split at h2<;>first|(cases h2;done)|skip
 rename_i r2 s2 hoth;unfold EI at h2;split at h2<;>first|(cases h2;done)|skip
 rename_i es2 c2 hrow2;have hl2:=Iz (l:=l) hrow2;have hoth':uy.call 137 [] ay=So (.m r2,s2):=hoth;rw[mG func91 rfl (Q1 rfl)]at hs;rcases Dy (l:=l) (n:=0) h2 with ⟨i,n,hf⟩|hf
 ·right;simp only[hoth,hrow2];exact Nv h2 hf
 ·left;rw[hf]at hl2;simp[f91,hoth',hl2]at hs;exact hs.1.symm
theorem acW{l:ae}(h:0<=arF l):0<=strF l/\strF l<=arF l:=by
 rcases Uj l with h1|h1
 ·omega
 ·have h2:=Y2.1 YH l h1;unfold OG at h2;have⟨s,hs⟩:=(CF l).choose_spec;have hs:fJ.call 91 [.s l] ay=So (.i .i64 (arF l),s):=hs;have⟨s',hs'⟩:=(Kc l).choose_spec;have hs':fJ.call 94 [.s l] ay=So (.i .i64 (strF l),s'):=hs';rw[hs,hs']at h2;simp only[rU,Q0,decide_eq_true_eq]at h2;exact h2
theorem Lk:∀{l:List ae}{S:aK}{n:Nat}{s:ae},s∉l->aZ S l n s=S s
 |[],_,_,_,_=>rfl
 |x::l,S,n,s,h=>by unfold aZ;rw[Lk λhh=>h (Z6 _ hh),if_neg λe=>h (by grind)]
theorem Cw:∀{l:List ae}{S:aK}{n:Nat}{s:ae},s∈l->∃(i:Nat) (h:i<l.length),aZ S l n s=So (n+i)/\l[i]=s
 |[],_,_,_,h=>(X4 h).elim
 |x::l,S,n,s,h=>by
  unfold aZ;by_cases hs:s∈l
  ·have⟨i,hi,h1,h2⟩:=Cw (S:=λy=>if y=x then So n else S y) (n:=n+1) hs;exact⟨i+1,by grind,by grind,by grind⟩
  ·have hx:s=x:=by
    grind
   subst hx;rw[Lk hs];simp
abbrev KD(ds:List bG):ae->Nat:=ax (aZ (λ_=>No) (ds.map (·.n)) 0)
theorem Hk:∀{ds:List bG}{s:ae}{v:AV},ir ds s=So v->∃d∈ds,d.n=s/\v=.ag d.cells
 |[],s,v,h=>by cases h
 |d::ds,s,v,h=>by
  unfold ir upd at h;split at h
  ·grind
  ·have⟨e,h1,h2⟩:=Hk h;grind
theorem Ad(hn:(ds.map (·.n)).Nodup){s:ae}(h:ir ds s=So v):∃d,ds[KD ds s]? = So d/\d.n=s/\v=.ag d.cells:=by
 have⟨d,h1,h2,h3⟩:=Hk h;obtain⟨j,hj,rfl⟩:=Y1 h1;have⟨i,hi,h4,h5⟩:=Cw (S:=λ_=>No) (n:=0) (l:=ds.map (·.n)) (s:=s) (by grind);have e:KD ds s=i:=by unfold KD ax;grind
 have:i=j:=by
  have hp:=List.pairwise_iff_getElem.1 hn;rcases Nat.lt_trichotomy i j with h|h|h
  ·exact absurd (by rw[h5,Q4,h2]) (hp i j hi (by simpa using hj) h)
  ·exact h
  ·exact absurd (by rw[h5,Q4,h2]) (hp j i (by simpa using hj) hi h)
 grind
structure KU(C:ae->Option AV)(pre:List dh)(kind:Int)(typ:ae)(sm:Bool)(seen:List ae):Prop where
 k:∀b∈pre,b.k=kind/\b.k≠4
 z:pre=[]\/kind≠0
 s:∀b∈pre,b.k=1->sm=Tt/\b.n∈seen/\∃v,C b.n=So v/\oB v=typ
structure Gc(C:ae->Option AV)(H:List dh)(i:Nat)(a:dh):Prop where
 ok:(a.k=1/\a.m=0/\∃v,C a.n=So v/\jr v=(a.vs.length:Int))\/(a.k=2/\a.vs.length=0)\/(a.k=3/\a.vs.length=0/\0<=a.m/\a.m<=255)\/(a.k=4/\a.m=0/\a.vs.length<=1)
 els:a.k=4->i+1=H.length
 kind:a.k≠4->∃b,H[0]? = So b/\a.k=b.k
 ty:a.k=1->∃b v w,H[0]? = So b/\C b.n=So v/\C a.n=So w/\oB w=oB v
 once:∀(j:Nat) (b:dh),j<i->H[j]? = So b->¬(b.k=a.k/\(a.k=1->b.n=a.n)/\b.m=a.m)
theorem NT{C:ae->Option AV}{H:List dh}:∀(rest pre:List dh) (kind:Int) (typ:ae) (sm:Bool) (seen:List ae),H=pre++rest->bO C pre rest kind typ sm seen=Tt->KU C pre kind typ sm seen->∀(i:Nat) (a:dh),pre.length<=i->H[i]? = So a->Gc C H i a
 |[],pre,kind,typ,sm,seen,hH,hg,hI,i,a,hi,ha=>by grind
 |x::rest,pre,kind,typ,sm,seen,hH,hg,hI,i,a,hi,ha=>by
  have hx:H[pre.length]? = So x:=by rw[hH];simp
  have hpre:∀(j:Nat) (b:dh),j<pre.length->H[j]? = So b->b∈pre:=λj b hj hb=>by rw[hH,List.getElem?_append_left hj]at hb;exact List.mem_of_getElem? hb
  have hH':H=(pre++[x])++rest:=by rw[hH];simp
  have h0:pre=[]/\H[0]? = So x\/∃b,b∈pre/\H[0]? = So b:=by
   cases pre with
   |nil=>exact .inl ⟨rfl,by rw[hH];rfl⟩
   |cons b pre=>exact .inr ⟨b,Z5 ..,by rw[hH];rfl⟩
  simp only[bO,Q0,decide_eq_true_eq]at hg;obtain⟨-,g1,g2,g3⟩:=hg;have next:∀{kind' typ' sm' seen'},bO C (pre++[x]) rest kind' typ' sm' seen'=Tt->KU C (pre++[x]) kind' typ' sm' seen'->Gc C H pre.length x->Gc C H i a:=λh1 h2 h3=>by
   rcases Nat.lt_or_ge pre.length i with h|h
   ·exact NT rest (pre++[x]) _ _ _ _ hH' h1 h2 i a (by simp;omega) ha
   ·have:i=pre.length:=by omega
    subst this;rw[hx]at ha;cases ha;exact h3
  by_cases h4:x.k=4
  ·rw[if_pos h4]at g3;simp only[Q0,decide_eq_true_eq,List.isEmpty_iff]at g3;obtain⟨e1,e2,-,e4,-⟩:=g3;subst e1;have hl:H.length=pre.length+1:=by rw[hH];simp
   have:i=pre.length:=by have:=(J4.1 ha).1;omega
   subst this;rw[hx]at ha;cases ha;exact⟨.inr (.inr (.inr ⟨h4,e4,e2⟩)),λ_=>hl.symm,λh=>absurd h4 h,λh=>by omega,λj b hj hb h=>(hI.k b (hpre j b hj hb)).2 (by omega)⟩
  ·rw[if_neg h4]at g3;simp only[Q0,X5,decide_eq_true_eq]at g3;have⟨g3,g4⟩:=g3;have hkd:∀b∈pre,b.k=x.k:=λb hb=>by
    have:=(hI.k b hb).1;rcases g3 with g3|g3
    ·rcases hI.z with h|h
     ·rw[h]at hb;cases hb
     ·exact absurd g3 h
    ·omega
   have hk0:x.k≠4->∃b,H[0]? = So b/\x.k=b.k:=λ_=>by
    rcases h0 with ⟨-,h⟩|⟨b,h,h'⟩
    ·exact⟨x,h,rfl⟩
    ·exact⟨b,h',(hkd b h).symm⟩
   by_cases h1:x.k=1
   ·rw[if_neg (by omega)]at g4;simp only[Q0,decide_eq_true_eq]at g4;obtain⟨e1,e2,-,g4⟩:=g4;cases hc:C x.n with
    |none=>rw[hc]at g4;cases g4
    |some v=>
    rw[hc]at g4;simp only[Q0,decide_eq_true_eq,X5,Y3]at g4;have⟨e4,e5,g4⟩:=g4;have et:∀b∈pre,∃w,C b.n=So w/\oB w=oB v:=λb hb=>by
     obtain⟨q1,-,w,q2,q3⟩:=hI.s b hb (by rw[hkd b hb];exact h1);rcases e5 with e5|e5
     ·rw[e5]at q1;cases q1
     ·exact⟨w,q2,by rw[q3,e5]⟩
    refine next g4 ⟨λb hb=>?_,.inr (by omega),λb hb hb1=>?_⟩ ⟨.inl ⟨h1,e1,v,hc,e4⟩,λh=>absurd h h4,hk0,λ_=>?_,λj b hj hb h=>?_⟩
    ·rcases Q5.1 hb with hb|hb
     ·exact⟨hkd b hb,(hI.k b hb).2⟩
     ·rw[Q8.1 hb];exact⟨rfl,h4⟩
    ·rcases Q5.1 hb with hb|hb
     ·obtain⟨-,q1,-⟩:=hI.s b hb hb1;exact⟨rfl,List.mem_append_left _ q1,et b hb⟩
     ·rw[Q8.1 hb];exact⟨rfl,by simp,v,hc,rfl⟩
    ·rcases h0 with ⟨-,h⟩|⟨b,h,h'⟩
     ·exact⟨x,v,v,h,hc,hc,rfl⟩
     ·have⟨w,q1,q2⟩:=et b h;exact⟨b,w,v,h',q1,hc,q2.symm⟩
    ·obtain⟨-,q1,-⟩:=hI.s b (hpre j b hj hb) (by omega);rw[h.2.1 h1]at q1;exact e2 q1
   ·rw[if_pos h1]at g4;simp only[Q0,decide_eq_true_eq,X5]at g4;obtain⟨-,e2,e3,e4,g4⟩:=g4;refine next g4 ⟨λb hb=>?_,.inr (by omega),λb hb hb1=>?_⟩ ⟨?_,λh=>absurd h h4,hk0,λh=>absurd h h1,λj b hj hb h=>?_⟩
    ·rcases Q5.1 hb with hb|hb
     ·exact⟨hkd b hb,(hI.k b hb).2⟩
     ·rw[Q8.1 hb];exact⟨rfl,h4⟩
    ·rcases Q5.1 hb with hb|hb
     ·exact absurd (by rw[<-hkd b hb];exact hb1) h1
     ·rw[Q8.1 hb]at hb1;exact absurd hb1 h1
    ·by_cases h3:x.k=3
     ·exact .inr (.inr (.inl ⟨h3,e2,e3.resolve_left (λh=>h h3)⟩))
     ·exact .inr (.inl ⟨by revert g1 g2 h4 h1 h3;generalize x.k=y;omega,e2⟩)
    ·have:=Y2.1 e4 b (hpre j b hj hb);simp only[decide_eq_true_eq]at this;exact this h.2.2
theorem ace(hn:(ds.map (·.n)).Nodup)(h:jJ (ir ds) H=Tt):Cs (jo ds) (jS ds) (H.map (xk (KD ds))):=by
 unfold jJ at h;simp only[Q0,Y3]at h;have⟨h1,h2⟩:=h;have key:=NT H [] 0 [] Ff [] rfl h2 ⟨λb hb=>(X4 hb).elim,.inl rfl,λb hb=>(X4 hb).elim⟩;refine⟨λe=>by rw[List.map_eq_nil_iff.1 e]at h1;simp at h1,λi A hA=>?_⟩;rw[Y4]at hA;obtain⟨a,ha,rfl⟩:=Z7.1 hA;have K:=key i a (Q7 _) ha;have tyK:∀{s:ae}{v:AV},ir ds s=So v->jS ds (KD ds s)=oB v:=λhv=>by obtain⟨d,q1,-,rfl⟩:=Ad hn hv;simp[jS,q1];rfl
 have z0:∀b,H[0]? = So b->∃h:0<(H.map (xk (KD ds))).length,(H.map (xk (KD ds)))[0]=xk (KD ds) b:=λb hb=>by have⟨q1,q2⟩:=J4.1 hb;exact⟨by simpa using q1,by simp[q2]⟩
 refine⟨?_,λh=>by rw[Q2];exact K.els h,λh=>?_,λh=>?_,λj B hj hB hh=>?_⟩
 ·rcases K.ok with ⟨k1,k2,v,k3,k4⟩|⟨k1,k2⟩|⟨k1,k2,k3⟩|⟨k1,k2,k3⟩
  ·obtain⟨d,q1,-,rfl⟩:=Ad hn k3;refine .inl ⟨k1,k2,?_⟩;show jo ds (if a.k=1 then KD ds a.n else 0)=So (a.vs.length:Int)
   rw[if_pos k1];unfold jo;rw[q1,<-k4];rfl
  ·exact .inr (.inl ⟨k1,by show(if a.k=1 then KD ds a.n else 0)=0;rw[if_neg (by omega)],k2⟩)
  ·exact .inr (.inr (.inl ⟨k1,by show(if a.k=1 then KD ds a.n else 0)=0;rw[if_neg (by omega)],k2,k3⟩))
  ·exact .inr (.inr (.inr ⟨k1,by show(if a.k=1 then KD ds a.n else 0)=0;rw[if_neg (by omega)],k2,k3⟩))
 ·have⟨b,q1,q2⟩:=K.kind h;have⟨q3,q4⟩:=z0 b q1;exact⟨q3,by rw[q4];exact q2⟩
 ·have h:a.k=1:=h;have⟨b,v,w,q1,q2,q3,q4⟩:=K.ty h;have⟨p3,p4⟩:=z0 b q1;have⟨b',q1',q2'⟩:=K.kind (by omega);rw[q1]at q1';cases q1';refine⟨p3,?_⟩;rw[p4];show jS ds (if a.k=1 then KD ds a.n else 0)=jS ds (if b.k=1 then KD ds b.n else 0)
  rw[if_pos h,if_pos (by omega),tyK q2,tyK q3,q4]
 ·rw[Y4]at hB;obtain⟨b,hb,rfl⟩:=Z7.1 hB;have⟨u1,u2,u3⟩:=hh;have u1:b.k=a.k:=u1;have u2:(if b.k=1 then KD ds b.n else 0)=(if a.k=1 then KD ds a.n else 0):=u2;refine K.once j b hj hb ⟨u1,λh=>?_,u3⟩;rw[if_pos (by omega),if_pos h]at u2;have Kb:=key j b (Q7 _) hb;obtain⟨-,v,w,-,-,q3,-⟩:=Kb.ty (by omega);obtain⟨-,v',w',-,-,q3',-⟩:=K.ty h;obtain⟨d,p1,p2,-⟩:=Ad hn q3;obtain⟨d',p1',p2',-⟩:=Ad hn q3';rw[u2,p1']at p1;cases p1;rw[<-p2,p2']
theorem LB(hC:∀s v,C s=So v->jr v<=32){k:Int}{num:Int}(hh:cQ C sc k nm num ps b a l=Tt):∀q∈l.list,(aM q).vs.length<=32:=by
 have F:=vp hh;by_cases k8:k=8
 ·have hA:jJ C l.bB=true:=by
   unfold cQ at hh;grind
  unfold jJ at hA;rw[Q0]at hA;have:=Gv hC hA.2;exact λp hp=>this _ (by unfold aa.bB;grind)
 ·have⟨f,hf⟩:=Et (F.l8 k8);subst hf;intro q hq;cases hq
theorem DN{k:Int}{num:Int}(h:cQ C sc k nm num ps b a l=Tt):
  (k=1->named nm=Tt/\hasB sc nm=Tt)/\(k=3->0<=num/\num<=255)/\(k=4->∃v,C nm=So v/\jr v=(a.len:Int))/\(k=5->1<=ps.length)/\(k=6->2<=a.len/\a.len<=33)/\(k=7->1<=b.len)/\(k=8->jJ C l.bB=Tt)/\(k=9->arF nm=(a.len:Int)):=by
 refine⟨λe=>?_,λe=>?_,λe=>?_,λe=>?_,λe=>?_,λe=>?_,λe=>?_,λe=>?_⟩<;>subst e<;>unfold cQ at h<;>simp at h
 ·exact⟨h.2.1,h.2.2⟩
 ·exact h.2
 ·obtain⟨-,-,h⟩:=h;cases hc:C nm with
  |none=>rw[hc]at h;simp at h
  |some v=>rw[hc]at h;exact⟨v,rfl,by simpa using h⟩
 ·omega
 ·omega
 ·omega
 ·exact h.2.2
 ·exact h.2.2
theorem N9{k:Int}{num:Int}(h:cQ C sc k nm num ps b a l=Tt):Cl k a:=λhk=>by
 have F:=vp h;have G:=DN h;rcases hk with h5|h6|h7|h8
 ·rw[F.a1 (.inl h5)];grind
 ·grind
 ·rw[F.a1 (.inr (.inl h7))];grind
 ·rw[F.a1 (.inr (.inr h8))];grind
theorem Oa{k:Int}{num:Int}(h:cQ C sc k nm num ps b a l=Tt)(h9:k=9):0<=strF nm/\strF nm<=(a.len:Int)/\arF nm=(a.len:Int):=by have G:=(DN h).2.2.2.2.2.2.2 h9;have:=acW (l:=nm) (by omega);omega
theorem Bc{p:List AV}(h:fF C (.cons p x l) sc=Tt):dQ C x ((aM (p,x)).vs::sc)=Tt/\fF C l sc=true:=by simp only[fF,Q0]at h;exact h
mutual
theorem SX(hC:∀s v,C s=So v->jr v<=32):∀(x:Ex) (sc:List (List ae)),dQ C x sc=Tt->pE strF x
 |.mk k nm num ps b a l,sc,h=>by simp only[dQ,Q0]at h;have⟨hh,oa,ob,ol⟩:=h;have F:=vp hh;exact⟨⟨N9 hh,F.p32,λh9=>by have:=Oa hh h9;omega,λh5=>Q6 (F.p5 h5)⟩,B9 hC b _ ob,B9 hC a _ oa,SW hC l _ ol (LB hC hh)⟩
theorem B9(hC:∀s v,C s=So v->jr v<=32):∀(l:aa) (sc:List (List ae)),cS C l sc=Tt->ou strF l
 |.nil _,_,_=>trivial
 |.cons p x l,sc,h=>by simp only[cS,Q0]at h;exact⟨SX hC x sc h.1,B9 hC l sc h.2⟩
theorem SW(hC:∀s v,C s=So v->jr v<=32):∀(l:aa) (sc:List (List ae)),fF C l sc=Tt->(∀q∈l.list,(aM q).vs.length<=32)->sS strF l
 |.nil _,_,_,_=>trivial
 |.cons p x l,sc,h,hv=>by have⟨h1,h2⟩:=Bc h;exact⟨⟨hv _ (Z5 ..),SX hC x _ h1⟩,SW hC l sc h2 λq hq=>hv q (Z6 _ hq)⟩
end
def oo(Q:ae->Prop)(sc sc':List (List ae)):Prop:=∀s,hasB sc s=Tt->hasB sc' s=Tt\/Q s
section
variable {Q:ae->Prop}
theorem oo.inner(h:oo Q sc sc')(k:Int)(ps:List ae)(b:aa):oo Q (de k ps b sc) (ps::b.names::sc'):=λs hs=>by
 unfold de at hs;rw[lZ,lZ];split at hs
 ·rcases(lZ _ _ _).1 hs with h1|h1
  ·grind
  ·exact(h s h1).imp (λh=>.inr (.inr h)) id
 split at hs
 ·rcases(lZ _ _ _).1 hs with h1|h1
  ·grind
  ·exact(h s h1).imp (λh=>.inr (.inr h)) id
 ·exact(h s hs).imp (λh=>.inr (.inr h)) id
theorem oo.out(h:oo Q sc sc')(A B:List ae):oo Q sc (A::B::sc'):=λs hs=>by rw[lZ,lZ];exact(h s hs).imp (λh=>.inr (.inr h)) id
theorem oo.cons(h:oo Q sc sc')(A:List ae):oo Q (A::sc) (A::sc'):=λs hs=>by
 rw[lZ]at hs|-;rcases hs with h1|h1
 ·grind
 ·exact(h s h1).imp .inr id
mutual
theorem DF:∀(x:Ex) (sc sc':List (List ae)),dQ C x sc=Tt->oo Q sc sc'->∀s∈jP x sc',Q s/\named s=Tt
 |.mk k nm num ps b a l,sc,sc',h,hQ,s,hs=>by
  simp only[dQ,Q0]at h;have⟨hh,oa,ob,ol⟩:=h;have hI:=hQ.inner k (aL ps) b;simp only[jP,Q5]at hs;rcases hs with hs|hs|hs|hs
  ·unfold lY at hs;split at hs
   ·rename_i h1;have⟨h1,h2⟩:=h1;rw[Q8.1 hs];have⟨g1,g2⟩:=(DN hh).1 h1;refine⟨?_,g1⟩;rcases hQ.out (aL ps) b.names nm g2 with h3|h3
    ·rw[h2]at h3;cases h3
    ·exact h3
   grind
  ·exact HU a _ _ oa hI s hs
  ·exact HU b _ _ ob hI s hs
  ·exact NG l _ _ ol (hQ.out _ _) s hs
theorem HU:∀(l:aa) (sc sc':List (List ae)),cS C l sc=Tt->oo Q sc sc'->∀s∈lG l sc',Q s/\named s=Tt
 |.nil _,_,_,_,_,s,hs=>by simp[lG]at hs
 |.cons p x l,sc,sc',h,hQ,s,hs=>by
  simp only[cS,Q0]at h;simp only[lG,Q5]at hs;rcases hs with hs|hs
  ·exact DF x sc sc' h.1 hQ s hs
  ·exact HU l sc sc' h.2 hQ s hs
theorem NG:∀(l:aa) (sc sc':List (List ae)),fF C l sc=Tt->oo Q sc sc'->∀s∈vg l sc',Q s/\named s=Tt
 |.nil _,_,_,_,_,s,hs=>by simp[vg]at hs
 |.cons p x l,sc,sc',h,hQ,s,hs=>by
  have⟨h1,h2⟩:=Bc h;simp only[vg,Q5]at hs;rcases hs with hs|hs
  ·exact DF x _ _ h1 (hQ.cons _) s hs
  ·exact NG l sc sc' h2 hQ s hs
end
end
theorem ZB{s:ae}(h:named s=Tt):∀c∈s,c<256:=λc hc=>by unfold named at h;grind
mutual
theorem Nk:∀(x:Ex) (sc:List (List ae)),dQ C x sc=Tt->xS x
 |.mk k nm num ps b a l,sc,h=>by have h':=h;simp only[dQ,Q0]at h;have⟨hh,oa,ob,ol⟩:=h;exact⟨λs hs=>ZB (DF (Q:=λ_=>True) _ sc [] h' (λ_ _=>.inr trivial) s hs).2,Dv b _ ob,Dv a _ oa,Nj l _ ol⟩
theorem Dv:∀(l:aa) (sc:List (List ae)),cS C l sc=Tt->qx l
 |.nil _,_,_=>trivial
 |.cons p x l,sc,h=>by simp only[cS,Q0]at h;exact⟨Nk x sc h.1,Dv l sc h.2⟩
theorem Nj:∀(l:aa) (sc:List (List ae)),fF C l sc=Tt->qx l
 |.nil _,_,_=>trivial
 |.cons p x l,sc,h=>by have⟨h1,h2⟩:=Bc h;exact⟨Nk x _ h1,Nj l sc h2⟩
end
section
variable {Gf:aK}
def pw(Gf:aK)(sc:List (List ae))(p:List ae):Prop:=∀s,hasB sc s=Tt->s∈p\/yv Gf s=Tt
theorem pw.inner(h:pw Gf sc p)(k:Int)(ps:List ae)(b:aa):pw Gf (de k ps b sc) (p++(ps++b.names)):=λs hs=>by
 simp only[Q5];unfold de at hs;split at hs
 ·rcases(lZ _ _ _).1 hs with h1|h1
  ·grind
  ·exact(h s h1).imp .inl id
 split at hs
 ·rcases(lZ _ _ _).1 hs with h1|h1
  ·grind
  ·exact(h s h1).imp .inl id
 ·exact(h s hs).imp .inl id
theorem pw.cons(h:pw Gf sc p)(A:List ae):pw Gf (A::sc) (p++A):=λs hs=>by
 rw[Q5];rcases(lZ _ _ _).1 hs with h1|h1
 ·grind
 ·exact(h s h1).imp .inl id
theorem Tx(h:dQ (ir ds) x sc=Tt)(hP:pw Gf sc p):(FF Gf x).Nodup/\∀s∈FF Gf x,s∈p:=by
 refine⟨(XP x).filter _,λs hs=>?_⟩;have⟨h1,h2⟩:=List.mem_filter.1 hs;have h3:=(DF (Q:=λs=>hasB sc s=Tt) x sc [] h (λs hs=>.inr hs) s (XO.1 h1)).1;rcases hP s h3 with h4|h4
 ·exact h4
 ·rw[h4]at h2;simp at h2
mutual
theorem Hq(hn:(ds.map (·.n)).Nodup):∀(x:Ex) (sc:List (List ae)) (p:List ae),dQ (ir ds) x sc=Tt->x.size<=1000000->pw Gf sc p->oj (FF Gf) (KD ds) (jo ds) (jS ds) strF arF x p
 |.mk k nm num ps b a l,sc,p,h,hs,hP=>by have hF:=Tx h hP;simp only[dQ,Q0]at h;have⟨hh,oa,ob,ol⟩:=h;simp only[Ex.size]at hs;have F:=vp hh;have⟨g1,g3,g4,g5,g6,g7,g8,g9⟩:=DN hh;have ha:=a.cq;have hl:=l.cq;have hI:=hP.inner k (aL ps) b;refine⟨⟨N9 hh,⟨by omega,by omega⟩,g3,λh4=>?_,λh5=>⟨g5 h5,F.p32⟩,λh5=>Q6 (F.p5 h5),g6,g7,λh8=>ace hn (g8 h8),λh9=>Oa hh h9⟩,hF,Hp hn a _ _ oa (by omega) hI,Hp hn b _ _ ob (by omega) hI,MM hn l _ _ ol (by omega) hP⟩;have⟨v,q1,q2⟩:=g4 h4;obtain⟨d,q3,-,rfl⟩:=Ad hn q1;unfold uT jo;rw[q3,<-q2];rfl
theorem Hp(hn:(ds.map (·.n)).Nodup):∀(l:aa) (sc:List (List ae)) (p:List ae),cS (ir ds) l sc=Tt->l.size<=1000000->pw Gf sc p->ui (FF Gf) (KD ds) (jo ds) (jS ds) strF arF l p
 |.nil _,_,_,_,_,_=>trivial
 |.cons q x l,sc,p,h,hs,hP=>by simp only[cS,Q0]at h;simp only[aa.size]at hs;exact⟨Hq hn x sc p h.1 (by omega) hP,Hp hn l sc p h.2 (by omega) hP⟩
theorem MM(hn:(ds.map (·.n)).Nodup):∀(l:aa) (sc:List (List ae)) (p:List ae),fF (ir ds) l sc=Tt->l.size<=1000000->pw Gf sc p->Ch (FF Gf) (KD ds) (jo ds) (jS ds) strF arF l p
 |.nil _,_,_,_,_,_=>trivial
 |.cons q x l,sc,p,h,hs,hP=>by have⟨h1,h2⟩:=Bc h;simp only[aa.size]at hs;exact⟨Hq hn x _ _ h1 (by omega) (hP.cons _),MM hn l sc p h2 (by omega) hP⟩
end
end
section
variable {T:List ae}
theorem ZI(late:aa)(out:Ex):eH (jA late out)=kP late+eH out:=by
 cases late with
 |nil f=>simp[jA,kP]
 |cons p x l=>simp[jA,eH,jR,nS,aL]
theorem Jc:∀(l:aa) (S:aU) (k:Int) (i n:Nat),(bM T l S k i n).2.1.len<=l.len/\((i:Int)+l.len<=k->(bM T l S k i n).2.1.len=0)
 |.nil _,_,_,_,_=>by simp only[bM,aa.len];grind
 |.cons p x l,S,k,i,n=>by
  by_cases hc:k<=(i:Int)/\(bm T x S n).1.atom=Ff
  ·rw[yM T hc];have h2:=Jc l S k (i+1) (bY T (bm T x S n).2);simp only[aa.len];grind
  ·rw[wW T hc];have h2:=Jc l S k (i+1) (bm T x S n).2;simp only[aa.len];grind
mutual
theorem EU(hC:∀s v,C s=So v->jr v<=32):∀(x:Ex) (sc:List (List ae)),dQ C x sc=Tt->∀(S:aU) (n:Nat),eH (bm T x S n).1+32<=32*x.size
 |.mk k nm num ps b a l,sc,h,S,n=>by
  simp only[dQ,Q0]at h;have⟨hh,oa,ob,ol⟩:=h;have F:=vp hh;have hv:=LB hC hh;unfold bm;by_cases h1:k=1
  ·rw[if_pos h1];simp only[eH,kP,jR,nS,aL,Ex.size,V6];omega
  ·rw[if_neg h1];simp only;have hw:=xH T (aL ps) S n;generalize aI T S (aL ps) n=w1 at*;generalize aI T w1.1 b.names w1.2.2=w2;have HB:=Qx hC b _ ob w2.1 w2.2.1 w2.2.2;generalize cy T b w2.1 w2.2.1 w2.2.2=rb at*;have HA:=Jd hC a _ oa w2.1 (fm strF k nm a.len) 0 rb.2;have HL:=Jc (T:=T) a w2.1 (fm strF k nm a.len) 0 rb.2;generalize bM T a w2.1 (fm strF k nm a.len) 0 rb.2=ra at*;have HX:=Qz hC l _ ol hv w2.1 ra.2.2;rw[ZI];simp only[eH,xF,hw,Ex.size];by_cases h5:k=5
   ·have a1:=F.a1 (.inl h5);have p32:=F.p32;have l0:=HL.2 (by unfold fm;grind);omega
   ·have p0:=F.p5 h5;omega
theorem Qx(hC:∀s v,C s=So v->jr v<=32):∀(l:aa) (sc:List (List ae)),cS C l sc=Tt->∀(S:aU) (ns:List ae) (n:Nat),kP (cy T l S ns n).1<=32*l.size
 |.nil _,_,_,_,_,_=>by simp only[cy,kP,aa.size];omega
 |.cons p x l,sc,h,S,ns,n=>by simp only[cS,Q0]at h;have h1:=EU hC x sc h.1 S n;have h2:=Qx hC l sc h.2 S ns.tail (bm T x S n).2;simp only[cy,kP,aa.size];omega
theorem Jd(hC:∀s v,C s=So v->jr v<=32):∀(l:aa) (sc:List (List ae)),cS C l sc=Tt->∀(S:aU) (k:Int) (i n:Nat),jR (bM T l S k i n).1+kP (bM T l S k i n).2.1+32*l.len<=32*l.size+(bM T l S k i n).2.1.len
 |.nil _,_,_,_,_,_,_=>by simp only[bM,kP,jR,aa.size,aa.len];omega
 |.cons p x l,sc,h,S,k,i,n=>by
  simp only[cS,Q0]at h;have h1:=EU hC x sc h.1 S n;by_cases hc:k<=(i:Int)/\(bm T x S n).1.atom=Ff
  ·rw[yM T hc];have h2:=Jd hC l sc h.2 S k (i+1) (bY T (bm T x S n).2);simp only[aa.size,aa.len,jR,kP,jU,eH,nS,aL,V6];omega
  ·rw[wW T hc];have h2:=Jd hC l sc h.2 S k (i+1) (bm T x S n).2;simp only[aa.size,aa.len,jR];omega
theorem Qz(hC:∀s v,C s=So v->jr v<=32):∀(l:aa) (sc:List (List ae)),fF C l sc=Tt->(∀q∈l.list,(aM q).vs.length<=32)->∀(S:aU) (n:Nat),nS (dz T l S n).1<=32*l.size
 |.nil _,_,_,_,_,_=>by simp only[dz,nS,aa.size];omega
 |.cons p x l,sc,h,hv,S,n=>by
  have⟨h1,h2⟩:=Bc h;have v1:(aM (p,x)).vs.length<=32:=hv _ (Z5 ..);have hw:=xH T (aM (p,x)).vs S n;simp only[dz,aa.size,nS];generalize aI T S (aM (p,x)).vs n=w at*;have h3:=EU hC x _ h1 w.1 w.2.2;have h4:=Qz hC l sc h2 (λq hq=>hv q (Z6 _ hq)) S (bm T x w.1 w.2.2).2;have e:∀y,(aM ([.i .i64 (aM (p,x)).k,.s (aM (p,x)).n,.i .i64 (aM (p,x)).m,cJ w.2.1],y)).vs=w.2.1:=λy=>xF w.2.1
  rw[e,hw];omega
end
theorem Qw(hC:∀s v,C s=So v->jr v<=32):∀(l:aa) (sc:List (List ae)),cS C l sc=Tt->∀(S:aU) (ns:List ae) (n:Nat),∀p∈(cy T l S ns n).1.list,eH p.2<=32*l.size
 |.nil _,_,_,_,_,_,p,hp=>by simp[cy,aa.list]at hp
 |.cons q x l,sc,h,S,ns,n,p,hp=>by
  simp only[cS,Q0]at h;simp only[cy,aa.list,Y5]at hp;simp only[aa.size];rcases hp with rfl|hp
  ·have:=EU (T:=T) hC x sc h.1 S n;grind
  ·have:=Qw hC l sc h.2 _ _ _ p hp;omega
end
section
variable {C:dT}
theorem Xh(h:aE v=Tt):ja s v=[]:=by cases v<;>first|rfl|(simp[aE]at h)
theorem Du:∀{l:List AV},aA l=Tt->l.flatMap (ja s)=[]
 |[],_=>rfl
 |v::l,h=>by simp only[aA,Q0]at h;rw[V1,Xh h.1,Du h.2];rfl
theorem Xg(h:aE v=Tt):mL s v=[]:=by cases v<;>first|rfl|(simp[aE]at h)
theorem vb:∀{l:List AV},aA l=Tt->l.flatMap (mL s)=[]
 |[],_=>rfl
 |v::l,h=>by simp only[aA,Q0]at h;rw[V1,Xg h.1,vb h.2];rfl
theorem Jx(h:dU C s m F)(hm:m.ops.length<=5000000)(hN:20<=N):
  ∃s' F',(Tw c N).call 146 [.p C.mr 0,.ag o.cells] s=So (iN m.ops.length,s')/\dU C s' ⟨m.ops++[o],m.bos⟩ F'/\Kv [C.mr] F F' s s' :=
 EW h (da.pure o.pure) (λg hg=>by unfold lJ at hg;simp[Am,vb o.pure]at hg) (Y:=[]) (by simp) hm hN
theorem abu{B:List AV}{k:Nat}{g:Option Nat}{lo':Nat}(h:dU C s m F)(hA:aA A=Tt)(hB:aA B=Tt)(ho:bD s lo' z v k cs g)(h0:k=0->v=.sn)(hp:aA cs=Tt)(e:o.cells=A++eA z cs k::B)(hg:∀x∈g.toList,C.lo<=x/\x∉F)(hm:m.ops.length<=5000000)(hN:20<=N):
  ∃s' F',(Tw c N).call 146 [.p C.mr 0,.ag (A++v::B)] s=So (iN m.ops.length,s')/\dU C s' ⟨m.ops++[o],m.bos⟩ F'/\Kv (C.mr::g.toList) F F' s s':=by
 have key:lJ 146 [.p C.mr 0,.ag (A++v::B)] s=λy=>(ja s v).contains y:=by
  unfold lJ;have e:mL s v=ja s v:=by
   rcases ho with ⟨rfl,-⟩|⟨r,rfl,rfl,-⟩|⟨r,f,al,-,rfl,h1,-⟩
   ·rfl
   ·cases h0 rfl
   ·simp[mL,ja,h1,Du hp]
  simp[Am,Z3,vb hA,vb hB,e]
 refine EW h (l:=A++v::B) ?_ (λy hy=>?_) hg hm hN
 ·rw[e,key];have hv:di (λy=>(ja s v).contains y) s v (eA z cs k):=by
   unfold eA;rcases ho with ⟨rfl,rfl,rfl,-⟩|⟨r,rfl,rfl,rfl,-⟩|⟨r,f,al,-,rfl,h1,h2,h3,h4,h5,h6,h7⟩
   ·exact .pure rfl
   ·cases h0 rfl
   ·rw[if_neg (by omega)];exact .slice h1 h2.symm (by simp[ja,h1]) (.pure hp) (by omega)
  have app:∀{A:List AV},aA A=Tt->da (λy=>(ja s v).contains y) s (A++v::B) (A++eA z cs k::B):=λ{A} hA=>by
   induction A with
   |nil=>exact .cons hv (.pure hB)
   |cons a A ih=>simp only[aA,Q0]at hA;exact .cons (.pure hA.1) (ih hA.2)
  exact app hA
 ·rw[key]at hy;rcases ho with ⟨rfl,rfl,rfl,-⟩|⟨r,rfl,rfl,rfl,-⟩|⟨r,f,al,rfl,rfl,h1,h2,h3,h4,h5,h6,h7⟩
  ·simp[ja]at hy
  ·cases h0 rfl
  ·simpa[ja,h1]using hy
theorem Do{x:Ctx}{a b:Code}(h:oE a=No):kM x (n+1) (.seq a b) t s=bW (ao a x t s) (kM x n b):=by
 show(match oE a with|some (ops,h,d,f)=>vR x d f (ao b x) (bw x.P x.S x.nt ops h t s)|none=>bW (ao a x t s) (kM x n b))=_
 rw[h]
theorem Nh{x:Ctx}{a b:Code}{ops:Array Oper}{hs:List Oper}{d:Oper}{f:Operand}(h:oE a=So (ops,hs,d,f))(hd:d.dst=No)(h1:bw x.P x.S x.nt ops hs t s=.nx t1 s1):kM x (n+1) (.seq a b) t s=pT x (ah t1 f) (ao b x t1 s1):=by
 show(match oE a with|some (ops,h,d,f)=>vR x d f (ao b x) (bw x.P x.S x.nt ops h t s)|none=>bW (ao a x t s) (kM x n b))=_
 rw[h];show vR x d f (ao b x) (bw x.P x.S x.nt ops hs t s)=_
 rw[h1];show Fh x f (ao b x) t1 s1 (dE x.nt t1 d.dst .un)=_
 rw[hd];show t1.seen (λt'=>pT x (ah t1 f) (ao b x t' s1))=_
 rw[Tr.seen_eq]
theorem Mc{fn:Func}{code:Code}(h:(f==16||(cF f||(G0 f||(G1 f||(G4 f||(G2 f||(G3 f||G5 f)))))))=Ff)(hf:π.funcs[f]? = So fn)(hb:fn.body=So code)(hn:xs.length<=fn.ntmps)(hd:defers 4 code=Tt):
  (Tw c (n+1)).call f xs st=fN π fn.results.toList (kM ⟨π,Tw c n,Ff,fn.ntmps,n⟩ 4 code (tmpsOf xs 0 .lf) st):=by
 simp only[Bool.or_eq_false_iff]at h;rw[pd (.inr (ne_of_beq_false h.1))];show(eT G0 fJ (eT G1 _ _)).call f xs st=_
 rw[iY h.2.2.1,iY h.2.2.2.1,kL h.2.2.2.2.1,kL h.2.2.2.2.2.1,yn h.2.2.2.2.2.2.1,th h.2.2.2.2.2.2.2,xG h.2.1];show ib π (Tw c n) n f xs st=_
 unfold ib;rw[hf];simp only[hb];rw[Z4 hn];unfold qX;rw[hd]
theorem Rc(hf:f=145\/f=202){r5:Nat}(h7:rd s r7 0 1=So [sv])(h5:rd s r5 0 1=So [.p br 0])(hb:kE s br n sv1)(hs:sv.cells=So [sv]/\bR sv=Tt):
  ∃s',pR π (Tw c (N+1)) f [.p r7 0,.p r5 0] s=So (.tu [],s')/\kE s' br n sv/\Kp [br] [br] s s':=by
 have⟨al,hb⟩:=hb;have hw:=c9 hb 1 [sv] (by simp) (by simp_all);refine⟨_,?_,⟨_,dA br [iN n,sv] br⟩,.aG (by simp) (by simp)⟩;have sto:=bN DO FD s br 1 sv hs.1;rcases hf with rfl|rfl
 ·unfold pR;rw[func145];show(match f145.body with|some _=>(Tw c (N+1)).dcall 145 [.p r7 0,.p r5 0] s|none=>No)=_
  rw[Sp,mG func145 rfl (Q1 rfl)];simp[f145,h5,h7,sto,hw]
 ·unfold pR;rw[func202];show(match f202.body with|some _=>(Tw c (N+1)).dcall 202 [.p r7 0,.p r5 0] s|none=>No)=_
  rw[Sp,mG func202 rfl (Q1 rfl)];simp[f202,h5,h7,sto,hw]
def lX:Code:=aw (aw (aw (f100.body.getD .skip)))
noncomputable abbrev nE(c : Option Self)(N : Nat) : Ctx := ⟨π,Tw c N,Ff,f100.ntmps,N⟩
structure kV(C:dT)(s0 s:St)(t:Tr AV)(x:Ex)(br:Nat)(sv:AV)(rx r5 r7:Nat):Prop where
 t0:ab t 0=.p C.mr 0
 t4:ab t 4=.p rx 0
 t5:ab t 5=.p r5 0
 cx:s.ce rx=So (x.cells,rx,[rx])
 c5:s.ce r5=So ([.p br 0],r5,[r5])
 c7:s.ce r7=So ([sv],r7,[r7])
 lt:(s0.next<=rx/\rx<s.next)/\(s0.next<=r5/\r5<s.next)/\(s0.next<=r7/\r7<s.next)
 kp:Kp [] [] s0 s
theorem WB(_:x.Ty)(h:Cx C st m F br n sv fs):
  ∃t s rx r5 r7,kV C st s t x br sv rx r5 r7/\(Tw c (N+2)).call 100 [.p C.mr 0,.ag x.cells,.p br 0] st=fN π f100.results.toList (pT (nE c (N+1)) (.f (.func 145) [] [.p r7 0,.p r5 0]) (ao lX (nE c (N+1)) t s)):=by
 have kx:=Kp.aj (st:=st) [] [] x.cells;have cx:=bq (st:=st) x.cells;have nx:(st.aj x.cells).next=st.next+1:=rfl;obtain⟨sx,hsx⟩:∃t,st.aj x.cells=t:=⟨_,rfl⟩;rw[hsx]at kx cx nx;have k5:=Kp.aj (st:=sx) [] [] [.p br 0];have c5:=bq (st:=sx) [.p br 0];have n5:(sx.aj [.p br 0]).next=st.next+2:=by show sx.next+1=_;omega
 obtain⟨s5,hs5⟩:∃t,sx.aj [.p br 0]=t:=⟨_,rfl⟩;rw[hs5]at k5 c5 n5;have K5:=kx.trans k5;have h5:=h.new K5;have⟨al,hb⟩:=h5.bo;have hsv:=h.sc.cells;have⟨s7,u1,u2,u3,u4⟩:=bJ (s:=s5) (z:=[.pn]) (cells:=[sv]) rfl (by simp_all);have sto:=bN DO FD (s5.aj [.pn]) s5.next 0 sv hsv.1;have rb:rd s5 br 1 1=So [sv]:=by rw[ai hb];rfl
 have r5:rd s5 sx.next 0 1=So [.p br 0]:=by rw[ai c5];rfl
 have cx7:=u3.ce (k5.ce cx (by omega) (by omega) (by simp) (by simp)) (by omega) (by omega) (by simp) (by simp);have c57:=u3.ce c5 (by omega) (by omega) (by simp) (by simp);have main:∃t,kV C st s7 t x br sv st.next sx.next s5.next/\(Tw c (N+2)).call 100 [.p C.mr 0,.ag x.cells,.p br 0] st=fN π f100.results.toList (pT (nE c (N+1)) (.f (.func 145) [] [.p s5.next 0,.p sx.next 0]) (ao lX (nE c (N+1)) t s7)):=by
  rw[Mc rfl func100 rfl (Q1 rfl) rfl];have e1:∃t,ao (au (f100.body.getD .skip)) (nE c (N+1)) (tmpsOf [.p C.mr 0,.ag x.cells,.p br 0] 0 .lf) st=.nx t s5/\ab t 0=.p C.mr 0/\ab t 4=.p st.next 0/\ab t 5=.p sx.next 0:=by simp[au,f100,hsx,hs5]
  have⟨t1,e1,a0,a4,a5⟩:=e1;have e2:∃t,ao (au (aw (f100.body.getD .skip))) (nE c (N+1)) t1 s5=.nx t s7/\ab t 0=.p C.mr 0/\ab t 4=.p st.next 0/\ab t 5=.p sx.next 0/\ab t 7=.p s5.next 0:=by simp[au,aw,f100,a0,a4,a5,r5,rb,aB,S4,sto,u1]
  have⟨t2,e2,b0,b4,b5,b7⟩:=e2;have e3:∃t,(∃ops hs d f,oE (au (aw (aw (f100.body.getD .skip))))=So (ops,hs,d,f)/\d.dst=No/\bw π (Tw c (N+1)) f100.ntmps ops hs t2 s7=.nx t s7/\ah t f=.f (.func 145) [] [.p s5.next 0,.p sx.next 0])/\ab t 0=.p C.mr 0/\ab t 4=.p st.next 0/\ab t 5=.p sx.next 0:=by
   refine⟨t2.set 22 (So (.f (.func 145) [] [.p s5.next 0,.p sx.next 0])),⟨_,_,_,_,rfl,rfl,?_,?_⟩,by simp_all,by simp_all,by simp_all⟩
   ·simp[f100,b5,b7]
   ·simp
  have⟨t3,⟨ops,hs,d,f,g1,g2,g3,g4⟩,d0,d4,d5⟩:=e3;refine⟨t3,⟨d0,d4,d5,cx7,c57,u2,⟨⟨by omega,by omega⟩,⟨by omega,by omega⟩,by omega,by omega⟩,K5.trans u3⟩,?_⟩;show fN _ _ (kM (nE c (N+1)) 4 (.seq (au (f100.body.getD .skip)) (.seq (au (aw (f100.body.getD .skip))) (.seq (au (aw (aw (f100.body.getD .skip)))) lX))) _ _)=_
  rw[Do (n:=3) rfl,e1,dN,Do (n:=2) rfl,e2,dN,Nh (n:=1) g1 g2 g3,g4]
 grind
theorem Wz{s0:St}{r5 op:Nat}(_:kV C st s0 t x br sv rx r5 r7)(he:ao lX (nE c (N+1)) t s0=.rt t1 s1)(h6:ab t1 6=iN op)(hb:kE s1 br n sv1)(h7:rd s1 r7 0 1=So [sv])(h5:rd s1 r5 0 1=So [.p br 0])(hs:sv.cells=So [sv]/\bR sv=Tt):
  ∃s2,fN π f100.results.toList (pT (nE c (N+1)) (.f (.func 145) [] [.p r7 0,.p r5 0]) (ao lX (nE c (N+1)) t s0))=So (iN op,s2)/\kE s2 br n sv/\Kp [br] [br] s1 s2:=by
 have⟨s2,q1,q2,q3⟩:=Rc (c:=c) (N:=N) (.inl rfl) h7 h5 hb hs;refine⟨s2,?_,q2,q3⟩;rw[he];show fN π f100.results.toList (wD t1 (pR π (Tw c (N+1)) 145 ([]++[.p r7 0,.p r5 0]) s1))=_
 rw[V3,q1];simp[f100,wD,bf,aO,h6]
def qL(o:Out)(i:Nat)(s1:St):Prop:=∃t1,o=.rt t1 s1/\ab t1 6=iN i
def uw(c:Option Self)(C:dT)(x:Ex)(st:St)(m:Ms)(F:List Nat)(br n:Nat)(sv:AV)(fs:List aK)(N:Nat):Prop:=Cx C st m F br n sv fs->∀t s rx r5 r7,kV C st s t x br sv rx r5 r7->Cx C s m F br n sv fs->
 ∃s1 F' sv1,qL (ao lX (nE c N) t s) (cg C x fs n m).1 s1/\dU C s1 (cg C x fs n m).2.2 F'/\kE s1 br (cg C x fs n m).2.1 sv1/\Kv [C.mr,br] F F' s s1
theorem WA(hx:eQ x)(hp:∀(C:dT) (st:St) (m:Ms) (F:List Nat) (br n:Nat) (sv:AV) (fs:List aK) (N:Nat),Cx C st m F br n sv fs->Bd x m n fs.length (N+1)->uw c C x st m F br n sv fs N):jF c x:=by
 intro C st m F br n sv fs N h hb;have hN:=hb.N;obtain⟨N,rfl⟩:∃N',N=N'+2:=⟨N-2,by omega⟩;have⟨t,s,rx,r5,r7,h1,h2⟩:=WB (c:=c) (N:=N) hx.ty h;rw[h2];have hC:=h.new h1.kp;have⟨s1,F',sv1,⟨t1,g1,g2⟩,g3,g4,g5⟩:=hp C st m F br n sv fs (N+1) h hb h t s rx r5 r7 h1 hC;have⟨⟨l1,l2,l3⟩,l4⟩:=h.mx.lt;have⟨lx,l5,l7⟩:=h1.lt;have hF:=h.mx.gB;have hbr:=h.lt;have out:∀y,st.next<=y->y∉[C.mr,br]++F:=λy hy hh=>by grind
 have c7:=g5.ce h1.c7 l7.2 l7.2 (out _ l7.1) (out _ l7.1);have c5:=g5.ce h1.c5 l5.2 l5.2 (out _ l5.1) (out _ l5.1);have⟨s2,q1,q2,q3⟩:=Wz (c:=c) (N:=N) h1 g1 g2 g4 (by rw[ai c7];rfl) (by rw[ai c5];rfl) h.sc.cells;have hsc:gG s1 ([C.mr,br]++F') sv fs:=hC.sc.kv g5;have bF:br∉F':=g5.out (by grind) hbr.2.2;have n1:=g5.next;have n0:=h1.kp.next;have⟨al,g4⟩:=g4;refine⟨s2,F',q1,⟨g3.DZ q3 (λy hy=>.inr ?_) (λy hy=>.inr ?_),q2,hsc.keep q3 (by simp) (by simp),hbr.1,Q9 hbr.2.1 (J1 (J1 n0 n1) q3.next),bF⟩,((Kv.of h1.kp).call g5 (λy hy=>.inl hy)).step q3 (by simp) (by simp)⟩
 ·rw[Q8.1 hy];refine⟨hbr.1,λl g al' hc=>?_⟩;rw[g4]at hc;cases hc;exact bF
 ·rw[Q8.1 hy];exact⟨hbr.1,bF⟩
end
section
variable {C:dT}
theorem tN(l:List Rf):(bz l).cells=So [bz l]:=RJ _ _ _
theorem Yw(l:List Nat):(fu l).cells=So [fu l]:=RJ _ _ _
theorem abt{B:List AV}{q:Option Nat}(h:dU C s m F)(hA:aA A=Tt)(hB:aA B=Tt)(hc:s.ce r=So (cs,r,[r]))(hz:1*z=cs.length)(hp:aA cs=Tt)(e:o.cells=A++eA z cs 1::B)(hg:C.lo<=r/\r∉F)(hm:m.ops.length<=5000000)(hN:20<=N):
  ∃s' F',(Tw c N).call 146 [.p C.mr 0,.ag (A++.sl r 0 1 z q::B)] s=So (iN m.ops.length,s')/\dU C s' ⟨m.ops++[o],m.bos⟩ F'/\Kv [C.mr,r] F F' s s':=by
 have key:lJ 146 [.p C.mr 0,.ag (A++.sl r 0 1 z q::B)] s=λy=>[r].contains y:=by funext y;unfold lJ;simp[Am,Z3,vb hA,vb hB,mL,hc,Du hp]
 refine EW h (l:=A++.sl r 0 1 z q::B) (Y:=[r]) ?_ (λy hy=>?_) (by simpa using hg) hm hN
 ·rw[e,key];have hv:di (λy=>[r].contains y) s (.sl r 0 1 z q) (eA z cs 1):=by
   unfold eA;rw[if_neg (by omega)];exact .slice hc hz (by simp) (.pure hp) (by omega)
  have app:∀{A:List AV},aA A=Tt->da (λy=>[r].contains y) s (A++.sl r 0 1 z q::B) (A++eA z cs 1::B):=λ{A} hA=>by
   induction A with
   |nil=>exact .cons hv (.pure hB)
   |cons a A ih=>simp only[aA,Q0]at hA;exact .cons (.pure hA.1) (ih hA.2)
  exact app hA
 ·rw[key]at hy;simpa using hy
theorem Cx.uL{R:List Nat}(h:Cx C s m F br n sv fs)(k:Kv R F F' s s')(hR:br∉R):kE s' br n sv:=by
 have⟨al,hb⟩:=h.bo;have:br∉R++F:=λhh=>(Q5.1 hh).elim hR h.lt.2.2
 exact⟨al,k.ce hb h.lt.2.1 h.lt.2.1 this this⟩
section
variable {k:Int}{num:Int}{ps:AV}{r5:Nat}
theorem kV.rk(h:kV C st s t (.mk k nm num ps b a l) br sv rx r5 r7):rd s rx 0 1=So [.i .i64 k]:=by rw[ai h.cx];rfl
theorem kV.rn(h:kV C st s t (.mk k nm num ps b a l) br sv rx r5 r7):rd s rx 1 1=So [.s nm]:=by rw[ai h.cx];rfl
theorem kV.ra(h:kV C st s t (.mk k nm num ps b a l) br sv rx r5 r7):rd s rx 5 1=So [a.slice 7]:=by rw[ai h.cx];rfl
theorem kV.yP(h:kV C st s t x br sv rx r5 r7):rd s r5 0 1=So [.p br 0]:=by rw[ai h.c5];rfl
theorem kV.ld(h:kV C st s t x br sv rx r5 r7):loadAt π 47 s (.p rx 0)=So (.ag x.cells):=by rw[cu cM gT,aX,ai h.cx,eV,<-x.bp,gY];rfl
theorem aaS(hk:k≠4/\k≠5/\k≠6/\k≠7/\k≠8/\k≠9)(hb:Bd (.mk k nm num ps b a l) m n fs.length (N+1)):uw c C (.mk k nm num ps b a l) st m F br n sv fs N:=by
 intro _ t s rx r5 r7 h hC;have hN:=hb.N;have hops:=hb.ops;have hd:=hb.d;have⟨h4,h5,h6,h7,h8,h9⟩:=hk;have eR:cg C (.mk k nm num ps b a l) fs n m=eh {k:=1,rs:=[atR (ax C.Gf) (aS fs) (.mk k nm num ps b a l)]} n m:=by unfold cg cU;simp only[h4,h5,h6,h7,h8,h9,if_false]
 rw[eR];simp only[eh];have⟨s1,q1,q2⟩:=Fb (c:=c) (x:=.mk k nm num ps b a l) hC.ic hC.wx (N:=N) (by omega);generalize atR (ax C.Gf) (aS fs) (.mk k nm num ps b a l)=r at*;have bo:=λ(t:Tr AV) (h:ah t (.tmp 155)=.ag (bI r))=>ef (S:=Tw c N) (t:=t) (st:=s1) yq (x:=.tmp 155) (cs:=bI r) (by rw[h];exact gh _) rfl
 have k2:=Kp.aj (st:=s1) [] [] (bI r);have c2:=bq (st:=s1) (bI r);have C2:=hC.new (q2.trans k2);have hF:=hC.mx.gB;have n1:=q2.next;have hl4:=hC.mx.lt.2;have⟨s3,F',p1,p2,p3⟩:=abt (c:=c) (N:=N) (o:={k:=1,rs:=[r]}) (A:=[.i .i64 1,.i .i64 0,.s []]) (B:=[.sn,.sn,.sn,.i .i64 0]) (z:=2) (q:=So 1) C2.mx rfl rfl c2 rfl rfl rfl ⟨by omega,λhh=>by have:=hF _ hh;omega⟩ (by omega) (by omega);have hbr:=hC.lt;have hmr:=hC.mx.lt.1.1;refine⟨s3,F',sv,?_,p2,C2.uL p3 (by simp;omega),(Kv.of (q2.trans k2)).call p3 (λy hy=>by simp at hy|-;omega)⟩;unfold qL;simp at p1;simp[lX,aw,f100,h.t0,h.t4,h.t5,h.rk,h4,h5,h6,h7,h8,h9,h.ld,h.yP,q1,bo,ve.build,p1,dJ]
theorem Cx.to{m':Ms}(h:Cx C s m F br n sv fs)(k:Kv [C.mr] F F' s s')(hm:dU C s' m' F'):Cx C s' m' F' br n sv fs:=by have hmr:=h.mx.lt.1.1;have hbr:=h.lt;have k2:Kv [C.mr,br] F F' s s':=(Kv.refl _ _ _).call k (by simp);exact⟨hm,h.uL k (by simp;omega),h.sc.kv k2,hbr.1,Q9 hbr.2.1 k.next,k.out hbr.2.1 hbr.2.2⟩
theorem kV.uQ(h:kV C st s t x br sv rx r5 r7)(h0:Cx C st m F br n sv fs)(k:Kv [C.mr,br] F F' s s1):(s1.ce rx=So (x.cells,rx,[rx])/\s1.ce r5=So ([.p br 0],r5,[r5])):=by
 have⟨lx,l5,l7⟩:=h.lt;have hF:=h0.mx.gB;have hbr:=h0.lt;have hmr:=h0.mx.lt;have out:∀y,st.next<=y->y∉[C.mr,br]++F:=λy hy hh=>by
  simp only[List.cons_append,V3,Y5]at hh;rcases hh with hh|hh|hh
  ·omega
  ·omega
  ·have:=hF _ hh;omega
 exact⟨k.ce h.cx lx.2 lx.2 (out _ lx.1) (out _ lx.1),k.ce h.c5 l5.2 l5.2 (out _ l5.1) (out _ l5.1)⟩
theorem aaV(hx:eQ (.mk 5 nm num ps b a l))(hB:pk c (.mk 5 nm num ps b a l))(hs:Ex.size (.mk 5 nm num ps b a l)<=1000000)(hb:Bd (.mk 5 nm num ps b a l) m n fs.length (N+1)):uw c C (.mk 5 nm num ps b a l) st m F br n sv fs N:=by
 intro h0 t s rx r5 r7 h hC;have hN:=hb.N;have hops:=hb.ops;have hbos:=hb.bos;have hd:=hb.d;cases a with
 |nil f=>have:=hx.wd.1.1 (.inl rfl);simp[aa.len]at this
 |cons p0 x0 a=>
 have eI:fE (.mk 5 nm num ps b (.cons p0 x0 a) l)=x0:=by simp[fE]
 have eP:tk (.mk 5 nm num ps b (.cons p0 x0 a) l)=aL ps:=by simp[tk]
 have z0:x0.size+1<=Ex.size (.mk 5 nm num ps b (.cons p0 x0 a) l):=by simp only[Ex.size,aa.size];omega
 have⟨s1,F1,v,q1,q2,q3,q4,q5⟩:=hB C s m F N hC.mx hs (by rw[eI];omega) (by rw[eI];omega) (by rw[eI];omega);have eR:cg C (.mk 5 nm num ps b (.cons p0 x0 a) l) fs n m=eh {k:=2,n:=(fZ C (.mk 5 nm num ps b (.cons p0 x0 a) l) m).1,rs:=(FF C.Gf (.mk 5 nm num ps b (.cons p0 x0 a) l)).map (eJ (ax C.Gf) (aS fs))} n (fZ C (.mk 5 nm num ps b (.cons p0 x0 a) l) m).2:=by unfold cg fZ;rw[eI,eP,cU];simp only[gj,if_true]
 have bop:(fZ C (.mk 5 nm num ps b (.cons p0 x0 a) l) m).2.ops.length<=m.ops.length+x0.size:=by unfold fZ;rw[eI];exact(GP (z:=x0.size) λS n=>(mU x0 (hx.arg (p0,x0) (by simp[aa.list])).wd S n m).1).1
 rw[eR];simp only[eh];generalize fZ C (.mk 5 nm num ps b (.cons p0 x0 a) l) m=R at*;generalize FF C.Gf (.mk 5 nm num ps b (.cons p0 x0 a) l)=fr at*;have C1:=hC.to q5 q4;have⟨s2,w1,w2⟩:=PE (c:=c) q2 q3 C1.ic C1.wx (N:=N) (by omega);generalize fr.map (eJ (ax C.Gf) (aS fs))=rs at*;have C2:=C1.new w2;have⟨s3,F',p1,p2,p3⟩:=Jx (c:=c) (N:=N) (o:={k:=2,n:=R.1,rs:=rs}) C2.mx (by omega) (by omega);have hbr:=hC.lt;have hmr:=hC.mx.lt.1.1;have⟨c1x,c15⟩:=h.uQ h0 ((Kv.refl [C.mr,br] F s).call q5 (by simp));have r15:rd s1 r5 0 1=So [.p br 0]:=by rw[ai c15];rfl
 refine⟨s3,F',sv,?_,p2,C2.uL p3 (by simp;omega),(((Kv.refl _ _ _).call q5 (by simp)).step w2 (by simp) (by simp)).call p3 (by simp)⟩;unfold qL;have e87:bC.cells {k:=2,n:=R.1,rs:=rs}=[.i .i64 2,iN R.1,.s [],bz rs,.sn,.sn,.sn,.i .i64 0]:=rfl;rw[e87]at p1;simp only[dJ]at q1 p1;simp[lX,aw,f100,h.t0,h.t4,h.t5,h.rk,h.ld,q1,r15,w1,ve.build,tN,p1,dJ]
theorem aaU(hx:eQ (.mk 4 nm num ps b a l))(hs:Ex.size (.mk 4 nm num ps b a l)<=1000000)(hb:Bd (.mk 4 nm num ps b a l) m n fs.length (N+1)):uw c C (.mk 4 nm num ps b a l) st m F br n sv fs N:=by
 intro h0 t s rx r5 r7 h hC;have hN:=hb.N;have hops:=hb.ops;have hd:=hb.d;have eR:cg C (.mk 4 nm num ps b a l) fs n m=eh {k:=3,n:=ax C.Kf nm,rs:=gQ (ax C.Gf) (aS fs) a} n m:=by unfold cg cU;simp
 rw[eR];simp only[eh];have aT:aa.Ty a 0:=by have:=hx.ty;simp only[Ex.Ty]at this;exact this.2.2.2.1
 have al:=aa.cq a;rw[aa.aF]at al;have hsz:a.size+1<=Ex.size (.mk 4 nm num ps b a l):=by simp only[Ex.size];omega
 have⟨s1,q1,q2⟩:=Fc (c:=c) (l:=a.list.map (·.2)) (wm aT) (λx hx=>by obtain⟨y,hy,rfl⟩:=Z8.1 hx;exact(aa.dC aT y hy).2) (by rw[Q2];omega) hC.ic hC.wx (N:=N) (by omega);have er:(a.list.map (·.2)).map (atR (ax C.Gf) (aS fs))=gQ (ax C.Gf) (aS fs) a:=by rw[V4];rfl
 rw[er]at q1;generalize gQ (ax C.Gf) (aS fs) a=rs at*;have C1:=hC.new q2;have⟨d0,d1,d2,d3,d4,hA⟩:=hC.ic.at';have r6:rd s C.mr 6 1=So [.m C.kr]:=by rw[hA.rd];rfl
 have lk:=λ{s:St} (h:dU C s m F)=>(h.ic (X:=[]) (by simp)).hK.get nR nm
 have lk0:=hC.ic.hK.get nR nm;have lk1:=C1.ic.hK.get nR nm;rw[vA]at lk0 lk1;have⟨e0,e1,e2,e3,e4,hA1⟩:=C1.ic.at';have r61:rd s1 C.mr 6 1=So [.m C.kr]:=by rw[hA1.rd];rfl
 obtain⟨c1x,-⟩:=h.uQ h0 (Kv.of q2);have rn1:rd s1 rx 1 1=So [.s nm]:=by rw[ai c1x];rfl
 have⟨s3,F',p1,p2,p3⟩:=Jx (c:=c) (N:=N) (o:={k:=3,n:=ax C.Kf nm,rs:=rs}) C1.mx (by omega) (by omega);have hbr:=hC.lt;have hmr:=hC.mx.lt.1.1;refine⟨s3,F',sv,?_,p2,C1.uL p3 (by simp;omega),((Kv.of q2).call p3 (by simp))⟩;unfold qL;have e87:bC.cells {k:=3,n:=ax C.Kf nm,rs:=rs}=[.i .i64 3,iN (ax C.Kf nm),.s [],bz rs,.sn,.sn,.sn,.i .i64 0]:=rfl;rw[e87]at p1;have ed:(C.Kf nm).getD 0=ax C.Kf nm:=rfl;rw[ed]at lk0 lk1;simp only[dJ]at p1 lk0 lk1;simp[lX,aw,f100,h.t4,h.rk,aY];rw[ft (fl:=[(4,13),(6,13),(7,13)])]
 rotate_left
 ·kernel_rfl
 ·intro R hR;simp[h.t0,h.t4,h.t5,r6,h.rn,lk0,h.ra,h.yP,q1,ve.build,tN,p1]at hR;subst hR;simp only[Z9,K8,V0,Q0];exact⟨cZ rfl rfl rfl (s:=s1) (by simp[r61]),cZ rfl rfl rfl (s:=s1) (by simp[rn1]),cZ rfl rfl rfl (s:=s1) (by simp[lk1])⟩
 ·simp[h.t0,h.t4,h.t5,r6,h.rn,lk0,h.ra,h.yP,q1,ve.build,tN,p1,dJ]
