/- A part of the proof. -/
import Derived.Test.YtjpheibfljmbjaaGreatDoorS09
import Derived.Test.YtjpheibfljmbjaaGreatDoorS10
set_option maxRecDepth 100000
open Nat renaming le_of_ble_eq_true->Q0, beq->Q1, ble->Q3, le_refl->Q9, zero_le->J1
open List renaming mem_cons->Q2, all_eq_true->Q4, length_map->Q6, mem_map->Q8, contains_iff_mem->J4, not_mem_nil->J5, take_append_getElem->J6, map_map->J8, map_congr_left->J9, pairwise_mergeSort->Z3, length_append->Z4, map_append->Z5
open Bool renaming and_eq_true->Q7, or_eq_false_iff->J3
open Go.Steps renaming one->Z6
open Go.Proofs.Tryz
noncomputable section
open Go.Ev
namespace Go.Proofs.YtjpheibfljmbjaaGreatDoor
variable {N i k m n o r rI rm z : Nat}{P : Program}{S T : Self}{c : Option Self}{cells xs ys : List AV}{e : fk}{es : List fk}{f : FuncId}{l ss : List ah}{q : Option Nat}{s s2 st st' : St}{t : Tr AV}{ty : TypeId}{v : AV}
theorem Vc{a b:ah}(ha:∀ c∈a,c<256)(hb:∀ c∈b,c<256)(h:nI a=nI b):a=b:=by
 have key:∀ s:ah,(∀ c∈s,c<256)->(nI s).map UInt8.toNat=s:=fun s hs=>by
  unfold nI;rw[J8]
  conv=>rhs;rw[<-List.map_id s]
  refine J9 fun c hc=>?_
  simp_all
 grind
theorem JI(a b c:ah)(h1:qJ a b=true)(h2:qJ b c=true):qJ a c=true:=by grind[qJ]
theorem Ru(a b:ah):(qJ a b||qJ b a)=true:=by grind[qJ]
theorem Vg{l':List ah}(h:l.Perm l')(hv:∀ s∈l,∀ c∈s,c<256):ek l=ek l':=by refine List.Perm.eq_of_pairwise ?_ (Z3 JI Ru l) (Z3 JI Ru l') (((Du l).trans h).trans (Du l').symm);grind[Du,qJ,Vc]
end Go.Proofs.YtjpheibfljmbjaaGreatDoor
namespace Go.Proofs.YtjpheibfljmbjaaGreatDoor.Fre
variable {N i k m n o r rI rm z : Nat}{P : Program}{S T : Self}{c : Option Self}{cells xs ys : List AV}{e : fk}{es : List fk}{f : FuncId}{l ss : List ah}{q : Option Nat}{s s2 st st' : St}{t : Tr AV}{ty : TypeId}{v : AV}
theorem qS:bp prog 31=true:=by kernel_rfl
theorem jT:bp prog 9=true:=by kernel_rfl
theorem oO:aD prog 9=1:=by kernel_rfl
theorem cI:bp prog 35=true:=by kernel_rfl
theorem qQ:et prog 35=true:=by kernel_rfl
theorem aH:aD prog 35=7:=by kernel_rfl
theorem gz:jv prog 31 9 1:=⟨underlying31,jT,oO⟩
theorem fM:gO prog 31 9 1:=⟨gz,by decide,⟨_,(by kernel_rfl:bm prog 9=some [.s []]),rfl⟩,by decide,by kernel_rfl,Q0 (by kernel_rfl),Q0 (by kernel_rfl)⟩
noncomputable def hd:Code->Code
 |.seq a _=>a
 |x=>x
noncomputable def tl:Code->Code
 |.seq _ b=>b
 |x=>x
noncomputable def B:Code:=f122.body.getD .skip
end Go.Proofs.YtjpheibfljmbjaaGreatDoor.Fre
namespace Go.Proofs.YtjpheibfljmbjaaGreatDoor
variable {N i k m n o r rI rm z : Nat}{P : Program}{S T : Self}{c : Option Self}{cells xs ys : List AV}{e : fk}{es : List fk}{f : FuncId}{l ss : List ah}{q : Option Nat}{s s2 st st' : St}{t : Tr AV}{ty : TypeId}{v : AV}
noncomputable def jR(es:List fk):List ah:=es.map fun e=>fD e.1
def Ji(es:List fk)(k:Nat):Prop:=strKeys es/\(∀ e∈es,e.2.2<k)/\(es.map (·.2.2)).Nodup/\es.length<=1000000
noncomputable def jS:List ah->AV
 |[]=>.sn
 |s::l=>.rs ((s::l).map .s) (l.length+1) 1
theorem TG:∀ l:List ah,bg (jS l)=true
 |[]=>rfl
 |s::l=>by simp[jS,bg,aQ,jD]
noncomputable def sA(cells:List AV):St:=(aK.aw cells).shut 0
open Classical in
def sY(T:Self)(cells:List AV):Option AV :=
 match T.call 40 [.ag cells] (sA cells) with
 |some (.b false,_)=>some .sn
 |some (.b true,s2)=>match T.call 159 [.rp cells,.pn,.m s2.next] (s2.new (.mp [] 0)) with
  |some (.tu [],s3)=>match s3.get s2.next with
   |some (.mp es k)=>if s2.next<s3.next/\Ji es k then some (jS (ek (jR es))) else none
   |_=>none
  |_=>none
 |_=>none
noncomputable def vm(T:Self)(f:FuncId)(xs:List AV)(st:St):Option (AV× St):=
 if f=122 then match xs with
  |[.ag cells]=>if aQ cells=true/\cells.length=7 then(sY T cells).map fun v=>(v,st) else none
  |_=>none
 else none
theorem LR(h:f≠122):vm T f xs st=none:=by unfold vm;grind
theorem Yj(h1:aQ cells=true)(h2:cells.length=7)(h3:sY T cells=some v):vm T 122 [.ag cells] st=some (v,st):=by grind[vm]
theorem Qj(h:sY T cells=some v):
  (∃ s2,T.call 40 [.ag cells] (sA cells)=some (.b false,s2)/\v=.sn)\/
  ∃ s2 s3 es k,T.call 40 [.ag cells] (sA cells)=some (.b true,s2)/\T.call 159 [.rp cells,.pn,.m s2.next] (s2.new (.mp [] 0))=some (.tu [],s3)/\s3.get s2.next=some (.mp es k)/\s2.next<s3.next/\Ji es k/\v=jS (ek (jR es)):=by
 grind[sY]
@[simp] theorem adG{it:Operand}:bH (.entry it) P S t st=tm st (ai t it):=rfl
@[simp] theorem afB{x:Operand}:bH (.range ty x) P S t st=rL P ty st (ai t x):=rfl
end Go.Proofs.YtjpheibfljmbjaaGreatDoor
namespace Go.Proofs.YtjpheibfljmbjaaGreatDoor.Fre
variable {N i k m n o r rI rm z : Nat}{P : Program}{S T : Self}{c : Option Self}{cells xs ys : List AV}{e : fk}{es : List fk}{f : FuncId}{l ss : List ah}{q : Option Nat}{s s2 st st' : St}{t : Tr AV}{ty : TypeId}{v : AV}
noncomputable abbrev X(T : Self)(n : Nat) : Ctx := ⟨prog, T, false, f122.ntmps, n⟩
theorem r0(_:cells.length=7):∃ t1,ao (hd B) (X T n) (tmpsOf [.ag cells] 0 .lf) aK=.nx t1 (aK.aw cells)/\ab t1 1=.p 0 0:=by simp[B,hd,f122];exact rfl
theorem rF(h7:cells.length=7)(h1:ab t 1=.rp cells)(h:T.call 40 [.ag cells] s=some (.b false,s2)):∃ t2,ao (tl B) (X T n) t s=.rt t2 s2/\ab t2 2=.sn:=by
 have ld:loadAt prog 35 s (.rp cells)=some (.ag cells):=by have:=kO cI qQ aH (st:=s) (r:=[]) h7;grind
 simp[B,tl,f122,h1,ld,mV func40 rfl,h]
theorem r1(h7:cells.length=7)(h1:ab t 1=.rp cells)(h:T.call 40 [.ag cells] s=some (.b true,s2)):∃ t2,ao (hd (tl B)) (X T n) t s=.nx t2 s2/\ab t2 1=.rp cells:=by
 have ld:loadAt prog 35 s (.rp cells)=some (.ag cells):=by
  have:=kO cI qQ aH (st:=s) (r:=[]) h7
  rwa [List.append_nil]at this
 simp[B,tl,hd,f122,h1,ld,mV func40 rfl,h]
theorem r3(h1:ab t 1=.rp cells):∃ t2,ao (hd (tl (tl B))) (X T n) t s=.nx t2 (s.new (.mp [] 0))/\ab t2 1=.rp cells/\ab t2 3=.m s.next:=by simp[B,tl,hd,f122,h1]
theorem r4{s3:St}(h1:ab t 1=.rp cells)(h3:ab t 3=.m rm)(h:T.call 159 [.rp cells,.pn,.m rm] s=some (.tu [],s3)):∃ t2,ao (hd (tl (tl (tl B)))) (X T n) t s=.nx t2 s3/\ab t2 3=.m rm:=by simp[B,tl,hd,f122,h1,h3,mV func159 rfl,h]
theorem r5(h3:ab t 3=.m rm):∃ t2,ao (hd (tl (tl (tl (tl B))))) (X T n) t s=.nx t2 s/\ab t2 3=.m rm/\ab t2 4=.sn:=by simp[B,tl,hd,f122,h3]
theorem r6(h3:ab t 3=.m rm)(h4:ab t 4=.sn)(hm:s.get rm=some (.mp es k)):∃ t2,ao (hd (hd (tl (tl (tl (tl (tl B))))))) (X T n) t s=.nx t2 (s.new (.mi (some rm) k [] k))/\ab t2 13=.p s.next 0/\ab t2 4=.sn:=by
 have hr:rL prog 49 s (.m rm)=some (.p s.next 0,s.new (.mi (some rm) k [] k)):=by simp_all[rL]
 simp[B,tl,hd,f122,h3,h4,hr]
noncomputable def KK:Code->Code
 |.block _ (.loop c)=>c
 |x=>x
noncomputable def kT:Code->Array Oper
 |.region _ o _=>o
 |_=>#[]
noncomputable def LC:Code:=KK (tl (hd (tl (tl (tl (tl (tl B)))))))
noncomputable def wG:Array Oper:=kT (hd LC)
noncomputable def wQ:Code:=tl (tl LC)
theorem RZ:tl (hd (tl (tl (tl (tl (tl B))))))=.block 0 (.loop (.seq (.region 7 wG false) (.seq (.cond (.tmp 15) .skip (.exit 0)) wQ))):=rfl
noncomputable def o1:Oper:={ dst:=some 14,op:=.next (.tmp 13) false,type:=0,pos := "core.go:345",after:=#[],guard:=none }
noncomputable def o2:Oper:={ dst:=some 15,op:=.extract (.tmp 14) 0,type:=4,pos := "core.go:345",after:=#[{ on:=0,ground:=.data }],guard:=none }
theorem ack:wG.toList=[o1,o2]:=rfl
structure JJ(rI rm k top:Nat)(es done:List fk)(t:Tr AV)(s:St):Prop where
 i13:ab t 13=.p rI 0
 gI:s.get rI=some (.mi (some rm) k (done.map (·.2.2)) k)
 gm:s.get rm=some (.mp es k)
 ow:∃ g,aW s (rI+1) 1 (ab t 4) done.length (done.map (·.1)) g
 nil:done=[]->ab t 4=.sn
 nx:s.next<=rI+1+2*done.length
 lt:rI<s.next
 le:done.length<=es.length
 tp:rI+1+2*es.length<=top
theorem JJ.top{rI rm k top:Nat}{es done:List fk}{t:Tr AV}{s:St}(h:JJ rI rm k top es done t s):s.next<=top:=by have:=h.nx;have:=h.le;have:=h.tp;omega
theorem QP:∀ (l:List Nat) (b:Nat),Bt (l++[b])=some b
 |[],b=>rfl
 |[x],b=>rfl
 |x::y::l,b=>QP (y::l) b
theorem Kt{e:fk}{st:St}:∀ {es:List fk},(es.map (·.2.2)).Nodup->e∈es->vQ e.2.2 st es=some (.tu [e.1,e.2.1],st)
 |(k,v,n)::l,hn,h=>by
  have hn':n∉l.map (·.2.2)/\(l.map (·.2.2)).Nodup:=List.nodup_cons.1 hn;show @Bool.rec (fun _=>aR) (vQ e.2.2 st l) (some (.tu [k,v],st)) (Q1 n e.2.2)=_
  rcases Q2.1 h with rfl|h
  ·rw[show Q1 n n=true by simp]
  ·have:n≠e.2.2:=fun hh=>hn'.1 (Q8.2 ⟨e,h,hh.symm⟩)
   rw[show Q1 n e.2.2=false by rw[bu];simp[this]];exact Kt hn'.2 h
theorem Cr:∀ {es:List fk},strKeys es->∀ e∈es,e.1=.s (fD e.1)
 |(k,v,n)::l,h,e,he=>by
  rcases Q2.1 he with rfl|he
  ·obtain⟨⟨s,rfl⟩,-⟩:=h;rfl
  ·exact Cr h.2 e he
theorem SR{top:Nat}{done L:List fk}(hg:Ji es k)(hm:rm<rI)(J:JJ rI rm k top es done t s)(hp:(done++e::L).Perm es):
  ∃ t2 s2,qI (X T n) wG o2 15 0 wQ (t.set 14 (some (.tu [.b true,e.1,e.2.1]))) (s.put rI (.mi (some rm) k (done.map (·.2.2)++[e.2.2]) k))=.nx t2 s2/\JJ rI rm k top es (done++[e]) t2 s2/\s2.next<=top:=by
 obtain⟨j13,jI,jm,⟨g,jO⟩,jn,jx,jl,je,jt⟩:=J;obtain⟨g1,g2,g3,g4⟩:=hg;have hmem:e∈es:=hp.mem_iff.1 (by simp);have hlen:=hp.length_eq;simp only[Z4,List.length_cons]at hlen;have hk:=Cr g1 e hmem;obtain⟨key,hkey⟩:∃ key,fD e.1=key:=⟨_,rfl⟩;rw[hkey]at hk;obtain⟨s1,hs1⟩:∃ s1,s.put rI (.mi (some rm) k (done.map (·.2.2)++[e.2.2]) k)=s1:=⟨_,rfl⟩;have k1:Kp [rI] [] s s1:=by rw[<-hs1];exact .put (by simp)
 have n1:s1.next=s.next:=by rw[<-hs1];rfl
 have gI1:s1.get rI=some (.mi (some rm) k (done.map (·.2.2)++[e.2.2]) k):=by rw[<-hs1];exact uT _ _
 have gm1:s1.get rm=some (.mp es k):=by rw[k1.get rm (by omega) (by simp;omega)];exact jm
 have hen:tm s1 (.p rI 0)=some (.tu [e.1,e.2.1],s1):=by
  show(match s1.get rI with
   |some (.mi (some m) _ seen stepped)=>match s1.get m with
    |some (.mp es clock)=>Dx s1 es clock stepped (Bt seen)
    |_=>none
   |_=>none)=_
  rw[gI1];simp only[gm1,QP];show @Bool.rec (fun _=>aR) none (vQ e.2.2 s1 es) (Q1 k k)=_
  rw[show Q1 k k=true by rw[bu];simp];exact Kt g3 hmem
 have O1:aW s1 (rI+1) 1 (ab t 4) done.length (done.map (·.1)) g:=jO.keep k1 (by simp) (by simp);have bo:=fun(t:Tr AV) (h:ai t (.tmp 19)=.s key)=>gT (S:=T) (st:=s1) fM (cs:=[.s key]) (by rw[h];simp) rfl
 obtain⟨v',g',s4,w1,w2,w3,w4,w5,-⟩:=O1.zT fM (new:=[.s key]) rfl rfl (by omega) (by omega);rw[hs1,hk];have run:∃ t2,qI (X T n) wG o2 15 0 wQ (t.set 14 (some (.tu [.b true,.s key,e.2.1]))) s1=.nx t2 s4/\ab t2 13=.p rI 0/\ab t2 4=v':=by rw[hk]at hen;simp[qI,o2,wQ,LC,KK,B,tl,hd,f122,j13,hen,bo,w1]
 obtain⟨t2,h1,h2,h3⟩:=run;have gl:=O1.fJ;have N4:s4.next<=rI+1+2*(done++[e]).length:=by simp;omega
 have J2:JJ rI rm k top es (done++[e]) t2 s4:=by
  refine⟨h2,?_,?_,⟨g',?_⟩,by simp,N4,?_,by simp;omega,jt⟩
  ·rw[w3.get rI (by omega) (by simp),gI1,Z5];rfl
  ·rw[w3.get rm (by omega) (by simp),gm1]
  ·rw[h3];have:(done++[e]).map (·.1)=done.map (·.1)++[.s key]:=by rw[Z5,<-hk];rfl
   rw[this,Z4];exact w2
  ·have:=w3.next;omega
 exact⟨t2,s4,h1,J2,J2.top⟩
theorem fin{top:Nat}{done:List fk}(J:JJ rI rm k top es done t s):∃ t2,qI (X T n) wG o2 15 0 wQ (t.set 14 (some (.tu [.b false]))) s=.ex 0 t2 s/\JJ rI rm k top es done t2 s:=by
 obtain⟨j13,jI,jm,jO,jn,jx,jl,je,jt⟩:=J;have run:∃ t2,qI (X T n) wG o2 15 0 wQ (t.set 14 (some (.tu [.b false]))) s=.ex 0 t2 s/\ab t2 13=.p rI 0/\ab t2 4=ab t 4:=by simp_all[qI,o2]
 obtain⟨t2,h1,h2,h3⟩:=run;exact⟨t2,h1,h2,jI,jm,by grind,by grind,jx,jl,je,jt⟩
theorem tail_nil(h4:ab t 4=.sn)(hn:T.call 47 [.sn] s=some (.tu [],s)):∃ t2,ao (tl (tl (tl (tl (tl (tl B)))))) (X T n) t s=.rt t2 s/\ab t2 2=.sn:=by simp[B,tl,f122,h4,mV func47 rfl,hn]
theorem Wp{s5:St}(h4:ab t 4=v)(hn:T.call 47 [v] s=some (.tu [],s5)):∃ t2,ao (tl (tl (tl (tl (tl (tl B)))))) (X T n) t s=.rt t2 s5/\ab t2 2=v:=by simp[B,tl,f122,h4,mV func47 rfl,hn]
theorem Xt(h:l≠[]):jS l=.rs (l.map .s) l.length 1:=by
 cases l with
 |nil=>grind
 |cons=>rfl
theorem MS:∀ l:List ah,bq (l.map .s)=true
 |[]=>rfl
 |s::l=>by simp[MS l]
theorem keys_map(h:strKeys es){done:List fk}(hd:∀ e∈done,e∈es):done.map (·.1)=(jR done).map .s:=by unfold jR;rw[J8];exact J9 fun e he=>Cr h e (hd e he)
theorem abO{E:Env}{ms:List MapEntry}(h:fS E es ms)(hk:strKeys es):∀ s∈jR es,∀ c∈s,c<256:=by
 intro s hs c hc;obtain⟨e,he,rfl⟩:=Q8.1 hs;obtain⟨m,-,h1,-⟩:=SH h e he;rw[Cr hk e he]at h1;generalize fD e.1=y at h1 hc;generalize m.key=u at h1;cases h1 with
 |s bs =>obtain⟨b,-,rfl⟩:=Q8.1 hc;exact b.toNat_lt
open Classical in
set_option maxHeartbeats 1000000 in
theorem ok(T:Self)(hT:cq prog T)(hn:∀ st,T.call 47 [.sn] st=some (.tu [],st))
  (hs:∀ {r m z:Nat} {q:Option Nat} {ss:List ah} {st st':St},0<m->m<4611686018427387904->rd st r 0 m=some (ss.map .s)->wt st r 0 ((ek ss).map .s)=some st'->T.call 47 [.sl r 0 m z q] st=some (.tu [],st')):tw prog (vm T):=by
 refine⟨fun f xs st=>?_,fun {ks E w st st' f xs us v} hr hc h hn'=>?_⟩
 ·unfold vm;split
  ·split
   ·split
    ·cases sY T _ with
     |none=>exact bF
     |some v=>exact gR
    ·exact bF
   ·exact bF
  ·exact bF
 ·unfold vm at h;split at h
  case isFalse=>grind
  rename_i hf;subst hf;split at h
  case h_2=>grind
  rename_i cells;split at h
  case isFalse=>grind
  rename_i hcl;obtain⟨hp,h7⟩:=hcl;cases hv:sY T cells with
  |none=>grind
  |some v0 =>
  rw[hv]at h;cases h;have main:∀ (top:Nat),1<=top->(∀ (b:Frame),b.roundOf=none->∀ {n0:Nat} {E1:Env} {w1:World} {t1:Tr AV} {a1:Act},E1.top=top->Rel E1 w1.heap (sA cells)->cJ E1 f122.ntmps t1 a1.tmps->Marks n0 b.defers E1 w1.heap (sA cells) a1.defers->n0<=w1.heap.size->ab t1 1=.rp cells->
    gE prog ks n0 E1 f122.ntmps b w1 (sA cells) (lone (b.atR a1 [.code (tl B)]) ks w1) (fun t s=>∃ v1,ab t 2=v1/\Fz 0 s v1 v))->∃ E2 w2 cv2,lQ prog ks 122 us.toArray w w2 cv2/\bt E E2 w w2 st st/\Conc E2 v cv2:=by
   intro top htop H;have hr0:=Ly hr top;have hc0:aP ⟨E.imm,fun _=>none,top⟩ [.ag cells] us:=ub (E:=E) (F:=⟨E.imm,fun _=>none,top⟩) (fun _ _ h=>h) hc (by simp[aQ,bg,hp]);have ht0:=Lx (nt:=f122.ntmps) hc0 (Q0 rfl);obtain⟨E',w',cv,v1,s1,hR,k1,k2,k3⟩:=T9 (ks:=ks) (G:=fun t s=>∃ v1,ab t 2=v1/\Fz 0 s v1 v) func122 rfl hr0
    (by
     intro b hb hbd;obtain⟨t1,e1,e2⟩:=r0 h7;refine gE.seq (x:=X T 0) (c:=hd B) (c2:=tl B) rfl hT (by rw[hb];rfl) hr0 ht0 (by rw[hbd];exact Marks.nil) (Q9 _) e1 htop ?_;intro E1 w1 a1 etop ele hr1 ht1 hm1 hn1;have sF:=Step.qo hr1 (Q3 0);have hz:Fz 0 (aK.aw cells) (.p 0 0) (.rp cells):=Fz.ptr (cz _) (J1 _) (fB.pure hp);obtain⟨d,hz⟩:=hz;have c1:=ht1.2 1;rw[e2]at c1;have c2:=BY hr1 d _ _ _ c1 hz;have hq:=H b hb (n0:=w.heap.size) (E1:=sd E1 w1.heap (aK.aw cells) (Q3 0)) (w1:=w1) (t1:=t1.set 1 (some (.rp cells))) (a1:=a1) etop sF.rel ⟨ht1.1,fun x=>by
      rw[TC];split
      ·rename_i hx;rw[hx];exact c2
      ·exact(ht1.2 x).mono sF.le⟩ (hm1.step sF) hn1 (by simp)
     exact hq.pre ⟨sF,rfl,rfl⟩ (Steps.refl _ _))
    (fun t s ⟨v1,h1,h2⟩=>⟨v1,by simp[f122,aG,aF,h1],h2⟩)
   exact YO hr k1 k2 k3 hR (by
    rcases Qj hv with ⟨s2,-,rfl⟩|⟨s2,s3,es,k,-,-,-,-,-,rfl⟩
    ·rfl
    ·exact TG _)
  obtain⟨E2,w2,cv2,g1,g2,g3⟩:∃ E2 w2 cv2,lQ prog ks 122 us.toArray w w2 cv2/\bt E E2 w w2 st st/\Conc E2 v cv2:=by
   rcases Qj hv with ⟨s2,h40,rfl⟩|⟨s2,s3,es,k,h40,h159,hget,hlt,hgood,rfl⟩
   ·refine main (s2.next+1) (by omega) ?_;intro b hb n0 E1 w1 t1 a1 etop hr1 ht1 hm1 hn1 e1;obtain⟨t2,q1,q2⟩:=rF (T:=T) (n:=0) h7 e1 h40;exact gE.code (x:=X T 0) rfl hT (by rw[hb];rfl) hr1 ht1 hm1 hn1 q1 (by omega) ⟨_,q2,.pure rfl⟩
   ·refine main (s3.next+2*es.length+5) (by omega) ?_;intro b hb n0 E1 w1 t1 a1 etop hr1 ht1 hm1 hn1 e1;have hi:(X T 0).inR=b.roundOf.isSome:=by rw[hb];rfl
    obtain⟨t2,q1,q2⟩:=r1 (T:=T) (n:=0) h7 e1 h40;refine gE.seq (x:=X T 0) (c:=hd (tl B)) (c2:=tl (tl B)) rfl hT hi hr1 ht1 hm1 hn1 q1 (by omega) ?_;clear hr1 ht1 hm1 hn1;intro E2 w2 a2 et2 _ hr2 ht2 hm2 hn2;obtain⟨t3,q3,q4,q5⟩:=r3 (T:=T) (n:=0) (s:=s2) q2;refine gE.seq (x:=X T 0) (c:=hd (tl (tl B))) (c2:=tl (tl (tl B))) rfl hT hi hr2 ht2 hm2 hn2 q3 (by show s2.next+1<=E2.top;omega) ?_;clear hr2 ht2 hm2 hn2;intro E3 w3 a3 et3 _ hr3 ht3 hm3 hn3;obtain⟨t4,q6,q7⟩:=r4 (T:=T) (n:=0) q4 q5 h159;refine gE.seq (x:=X T 0) (c:=hd (tl (tl (tl B)))) (c2:=tl (tl (tl (tl B)))) rfl hT hi hr3 ht3 hm3 hn3 q6 (by omega) ?_;clear hr3 ht3 hm3 hn3;intro E4 w4 a4 et4 _ hr4 ht4 hm4 hn4;obtain⟨-,ents,-,-,hce,-⟩:=Rel.mp hr4 hget;have hbytes:=abO hce hgood.1;obtain⟨t5,q8,q9,q10⟩:=r5 (T:=T) (n:=0) (s:=s3) q7;refine gE.seq (x:=X T 0) (c:=hd (tl (tl (tl (tl B))))) (c2:=tl (tl (tl (tl (tl B))))) rfl hT hi hr4 ht4 hm4 hn4 q8 (by omega) ?_;clear hr4 ht4 hm4 hn4;intro E5 w5 a5 et5 _ hr5 ht5 hm5 hn5;refine gE.assoc (c1:=hd (tl (tl (tl (tl (tl B)))))) (c2:=tl (tl (tl (tl (tl (tl B)))))) hr5 ?_;obtain⟨t6,q11,q12,q13⟩:=r6 (T:=T) (n:=0) (s:=s3) q9 q10 hget;refine gE.seq (x:=X T 0) (c:=hd (hd (tl (tl (tl (tl (tl B))))))) (c2:=tl (hd (tl (tl (tl (tl (tl B))))))) rfl hT hi hr5 ht5 hm5 hn5 q11 (by show s3.next+1<=E5.top;omega) ?_;clear hr5 ht5 hm5 hn5;intro E6 w6 a6 et6 _ hr6 ht6 hm6 hn6;rw[RZ];have J0:JJ s3.next s2.next k (s3.next+2*es.length+5) es [] t6 (s3.new (.mi (some s2.next) k [] k)):=
     ⟨q12,by rw[St.pP,if_pos rfl];rfl,by rw[St.pP,if_neg (by omega)];exact hget,⟨none,by rw[q13];exact aW.nil _ _ _⟩,fun _=>q13,Q9 _,Nat.lt_succ_self _,J1 _,by omega⟩
    obtain⟨done,t7,s7,g1,J7,hA⟩:=Va (x:=X T 0) (ks:=ks) (n0:=n0) (b:=b) (i7:=7) (ops:=wG) (o1:=o1) (o2:=o2) (d13:=13) (d14:=14) (d15:=15) (id:=0) (body:=wQ) rfl hT ack rfl rfl rfl (show 14<f122.ntmps from Q0 rfl) hgood.2.1 hgood.2.2.1
     (JJ s3.next s2.next k (s3.next+2*es.length+5) es) (JJ s3.next s2.next k (s3.next+2*es.length+5) es) (k:=[.code (tl (tl (tl (tl (tl (tl B))))))]) hi (s3.next+2*es.length+5)
     (fun done t s J=>⟨J.i13,J.gI,J.gm,J.top⟩)
     (fun done e L t s J hp=>SR hgood hlt J hp)
     (fun done t s J hp=>fin J)
     _ [] rfl (by simp[Tb]) (a:=a6) (by omega) hr6 ht6 hm6 hn6 J0
    obtain⟨E7,a7,w7,s67,ht7,hm7,hst⟩:=hA;refine gE.pre s67 ((Z6 stepR_block).trans ((Z6 stepR_loop).trans hst)) ?_;have hr7:=s67.rel;have hn7:=Nat.le_trans hn6 s67.fr.size;have et7:=s67.top;have jt:=J7.top;have hdm:∀ e∈done,e∈es:=fun e he=>g1.mem_iff.1 he
    have hks:=keys_map hgood.1 hdm;have hpk:(jR done).Perm (jR es):=g1.map _;have hsq:ek (jR es)=ek (jR done):=Vg hpk.symm hbytes;rw[hsq];have hlk:(jR done).length=done.length:=by simp[jR]
    by_cases hd0:done=[]
    ·subst hd0;obtain⟨t8,q14,q15⟩:=tail_nil (T:=T) (n:=0) (s:=s7) (J7.nil rfl) (hn s7);exact gE.code (x:=X T 0) rfl hT hi hr7 ht7 hm7 hn7 q14 (by omega) ⟨_,q15,by rw[show jS (ek (jR []))=.sn by simp[jR,ek,jS]];exact .pure rfl⟩
    ·obtain⟨g,hO⟩:=J7.ow;have hdl:0<done.length:=List.length_pos_iff.2 hd0;rcases hO with ⟨-,h0,-⟩|⟨r,-,h0,-⟩|⟨r,f,al,-,hv4,hce7,hl7,-,-,-,-,-⟩
     ·omega
     ·omega
     ·rw[hks]at hce7;have hle:=J7.le;have hg4:=hgood.2.2.2;have hrd:rd s7 r 0 done.length=some ((jR done).map .s):=by
       have e:done.length=((jR done).map AV.s).length:=by rw[Q6,hlk]
       rw[au hce7,cQ,e,dD]
      have hsl:((ek (jR done)).map AV.s).length=((jR done).map AV.s).length:=by rw[Q6,Q6,xJ]
      have hw:=bP hce7 0 ((ek (jR done)).map .s) (by rw[Nat.zero_add,hsl];exact Q9 _) (MS _);rw[gZ,jG hsl]at hw;obtain⟨t8,q14,q15⟩:=Wp (T:=T) (n:=0) hv4 (hs (z:=1) (q:=none) hdl (by omega) hrd hw);refine gE.code (x:=X T 0) rfl hT hi hr7 ht7 hm7 hn7 q14 (by show s7.next<=E7.top;omega) ⟨_,q15,?_⟩;have hne:ek (jR done)≠[]:=fun e=>by have:=congrArg List.length e;rw[xJ,hlk]at this;simp at this;exact hd0 this
      rw[Xt hne,xJ,hlk];exact Fz.slice (cj _ _ _) (by rw[Nat.mul_one,Q6,xJ,hlk]) (J1 _) (fB.pure (jD _)) (by omega)
  grind
end Go.Proofs.YtjpheibfljmbjaaGreatDoor.Fre
namespace Go.Proofs.YtjpheibfljmbjaaGreatDoor
variable {N i k m n o r rI rm z : Nat}{P : Program}{S T : Self}{c : Option Self}{cells xs ys : List AV}{e : fk}{es : List fk}{f : FuncId}{l ss : List ah}{q : Option Nat}{s s2 st st' : St}{t : Tr AV}{ty : TypeId}{v : AV}
noncomputable def Ks(f:Nat):Bool:=match prog.funcs[f]? with|some fn=>fn.body.isSome|none=>false
theorem YU:((List.range 171).all fun f=>Q3 f 1||Q1 f 108||Ks f)=true:=by kernel_rfl
@[simp] theorem Mr{f:Nat}(h:(1<f/\f<108)\/(108<f/\f<171)):nj prog S f xs st=S.call f xs st:=by
 have h1:=Q4.1 YU f (List.mem_range.2 (by omega));have h2:Q3 f 1=false:=by cases hh:Q3 f 1<;>simp_all;omega
 have h3:Q1 f 108=false:=by rw[bu];simp;omega
 rw[h2,h3]at h1;simp only[Bool.false_or,Ks]at h1;cases hf:prog.funcs[f]? with
 |none=>rw[hf]at h1;cases h1
 |some fn =>
  rw[hf]at h1;cases hb:fn.body with
  |none=>simp[hb]at h1
  |some c=>exact mV hf hb
attribute [simp] oE wN lS Kq
@[simp] theorem ac9:bp prog 2=true:=by kernel_rfl
@[simp] theorem ag2:et prog 2=false:=by kernel_rfl
@[simp] theorem nS:bp prog 3=true:=by kernel_rfl
@[simp] theorem EJ:et prog 3=false:=by kernel_rfl
theorem ri:aD prog 3=1:=by kernel_rfl
@[simp] theorem Pq:bp prog 4=true:=by kernel_rfl
theorem ML:aD prog 4=1:=by kernel_rfl
@[simp] theorem jT:bp prog 9=true:=by kernel_rfl
@[simp] theorem nU:et prog 9=false:=by kernel_rfl
theorem oO:aD prog 9=1:=by kernel_rfl
@[simp] theorem aed:bp prog 22=true:=by kernel_rfl
@[simp] theorem afE:et prog 22=false:=by kernel_rfl
@[simp] theorem nH:bp prog 23=true:=by kernel_rfl
@[simp] theorem PX:et prog 23=false:=by kernel_rfl
theorem pI:aD prog 23=1:=by kernel_rfl
@[simp] theorem aak:bp prog 28=true:=by kernel_rfl
@[simp] theorem aeu:et prog 28=false:=by kernel_rfl
theorem Vb:aD prog 28=1:=by kernel_rfl
@[simp] theorem qS:bp prog 31=true:=by kernel_rfl
@[simp] theorem SD:et prog 31=false:=by kernel_rfl
theorem vX:aD prog 31=1:=by kernel_rfl
@[simp] theorem o9:bp prog 32=true:=by kernel_rfl
@[simp] theorem Pz:et prog 32=false:=by kernel_rfl
theorem sP:aD prog 32=1:=by kernel_rfl
@[simp] theorem uX:bp prog 33=true:=by kernel_rfl
@[simp] theorem Qe:et prog 33=false:=by kernel_rfl
theorem yx:aD prog 33=1:=by kernel_rfl
@[simp] theorem adh:bp prog 49=true:=by kernel_rfl
@[simp] theorem afz:et prog 49=false:=by kernel_rfl
@[simp] theorem ad4:bp prog 75=true:=by kernel_rfl
@[simp] theorem aeI:et prog 75=false:=by kernel_rfl
@[simp] theorem adt:bp prog 78=true:=by kernel_rfl
@[simp] theorem aeO:et prog 78=false:=by kernel_rfl
@[simp] theorem lI:bp prog 25=true:=by kernel_rfl
@[simp] theorem An:et prog 25=true:=by kernel_rfl
theorem eP:aD prog 25=2:=by kernel_rfl
@[simp] theorem dx:bp prog 54=true:=by kernel_rfl
@[simp] theorem yH:et prog 54=true:=by kernel_rfl
theorem dq:aD prog 54=4:=by kernel_rfl
@[simp] theorem cI:bp prog 35=true:=by kernel_rfl
@[simp] theorem qQ:et prog 35=true:=by kernel_rfl
theorem aH:aD prog 35=7:=by kernel_rfl
@[simp] theorem dn:bp prog 37=true:=by kernel_rfl
@[simp] theorem kI:et prog 37=true:=by kernel_rfl
theorem cV:aD prog 37=8:=by kernel_rfl
@[simp] theorem cy:bp prog 93=true:=by kernel_rfl
@[simp] theorem zn:et prog 93=true:=by kernel_rfl
theorem bU:aD prog 93=11:=by kernel_rfl
@[simp] theorem afn:ey prog 25 0=some 0:=by kernel_rfl
@[simp] theorem Pf:ey prog 25 1=some 1:=by kernel_rfl
@[simp] theorem aek:ey prog 54 0=some 0:=by kernel_rfl
@[simp] theorem ad6:ey prog 54 1=some 1:=by kernel_rfl
@[simp] theorem aeQ:ey prog 54 2=some 2:=by kernel_rfl
@[simp] theorem aeb:ey prog 54 3=some 3:=by kernel_rfl
@[simp] theorem adD:ey prog 35 0=some 0:=by kernel_rfl
@[simp] theorem aeB:ey prog 35 1=some 1:=by kernel_rfl
@[simp] theorem afa:ey prog 35 2=some 2:=by kernel_rfl
@[simp] theorem afy:ey prog 35 3=some 3:=by kernel_rfl
@[simp] theorem ae4:ey prog 35 4=some 4:=by kernel_rfl
@[simp] theorem aeh:ey prog 35 5=some 5:=by kernel_rfl
@[simp] theorem ac1:ey prog 35 6=some 6:=by kernel_rfl
@[simp] theorem adp:ey prog 37 0=some 0:=by kernel_rfl
@[simp] theorem adB:ey prog 37 1=some 1:=by kernel_rfl
@[simp] theorem aeD:ey prog 93 0=some 0:=by kernel_rfl
@[simp] theorem aeU:ey prog 93 1=some 1:=by kernel_rfl
@[simp] theorem adw:ey prog 93 2=some 2:=by kernel_rfl
@[simp] theorem afe:ey prog 93 3=some 3:=by kernel_rfl
@[simp] theorem aeF:ey prog 93 4=some 4:=by kernel_rfl
@[simp] theorem ad3:ey prog 77 0=some 0:=by kernel_rfl
@[simp] theorem afv:ey prog 77 1=some 1:=by kernel_rfl
@[simp] theorem adN:ey prog 80 0=some 0:=by kernel_rfl
@[simp] theorem aeT:ey prog 80 1=some 1:=by kernel_rfl
@[simp] theorem adO:ey prog 105 0=some 0:=by kernel_rfl
@[simp] theorem afs:ey prog 105 1=some 1:=by kernel_rfl
@[simp] theorem aeP:ey prog 51 0=some 0:=by kernel_rfl
@[simp] theorem adk:ey prog 51 1=some 1:=by kernel_rfl
theorem Gk:jv prog 22 54 4:=⟨underlying22,dx,dq⟩
theorem fG:jv prog 23 37 8:=⟨underlying23,dn,cV⟩
theorem gz:jv prog 31 9 1:=⟨underlying31,jT,oO⟩
theorem jk:jv prog 32 35 7:=⟨underlying32,cI,aH⟩
theorem nY:jv prog 33 93 11:=⟨underlying33,cy,bU⟩
def gP:List AV:=[.s [],.i .i64 0,.s [],.i .i64 0]
theorem dW:bm prog 54=some gP:=by kernel_rfl
def jr:List AV:=[.s [],.i .i64 0,.s [],.i .i64 0,.sn,.sn,.sn,.sn]
theorem qj:bm prog 37=some jr:=by kernel_rfl
def v8:List AV:=[.s []]
theorem LN:bm prog 9=some v8:=by kernel_rfl
def eM:List AV:=[.i .i64 0,.s [],.i .i64 0,.sn,.sn,.sn,.sn]
theorem qH:bm prog 35=some eM:=by kernel_rfl
def qp:List AV:=[.i .i64 0,.s [],.i .i64 0,.sn,.i .i64 0,.s [],.i .i64 0,.sn,.sn,.sn,.sn]
theorem dM:bm prog 93=some qp:=by kernel_rfl
theorem Cz:gO prog 22 54 4:=⟨Gk,by decide,⟨_,(by kernel_rfl:bm prog 54=some (gP)),rfl⟩,by decide,by kernel_rfl,Q0 (by kernel_rfl),Q0 (by kernel_rfl)⟩
theorem mJ:gO prog 23 37 8:=⟨fG,by decide,⟨_,(by kernel_rfl:bm prog 37=some (jr)),rfl⟩,by decide,by kernel_rfl,Q0 (by kernel_rfl),Q0 (by kernel_rfl)⟩
theorem fM:gO prog 31 9 1:=⟨gz,by decide,⟨_,(by kernel_rfl:bm prog 9=some (v8)),rfl⟩,by decide,by kernel_rfl,Q0 (by kernel_rfl),Q0 (by kernel_rfl)⟩
theorem lX:gO prog 32 35 7:=⟨jk,by decide,⟨_,(by kernel_rfl:bm prog 35=some (eM)),rfl⟩,by decide,by kernel_rfl,Q0 (by kernel_rfl),Q0 (by kernel_rfl)⟩
theorem yK:gO prog 33 93 11:=⟨nY,by decide,⟨_,(by kernel_rfl:bm prog 93=some (qp)),rfl⟩,by decide,by kernel_rfl,Q0 (by kernel_rfl),Q0 (by kernel_rfl)⟩
def G0(f:FuncId):Bool:=[62,70,75,105].contains f
def G1(f:FuncId):Bool:=[63,35,38,71,67,68,65,104,33,36,30,9,8,40,41,72,83].contains f
def G2(f:FuncId):Bool:=[34,29,73,23,49].contains f
def G4(f:FuncId):Bool:=f==64
def G3(f:FuncId):Bool:=[43,20,6,24,89,86,91,87,7].contains f
def mS(st:St):AV->List Nat
 |.sl r _ _ _ _=>match st.ce r with|some (_,g,_)=>[g]|none=>[]
 |_=>[]
def rj(f:FuncId)(v:AV)(st:St)(g:Nat):Bool:=f != 24||(match v with|.ag l=>(l.flatMap (mS st)).contains g|_=>false)
theorem aaH(h:f≠24)(v:AV)(st:St)(g:Nat):rj f v st g=true:=by unfold rj;simp[h]
def jQ:Self:=xI prog (fun S=>S) 200
def cF(f:FuncId):Bool:=f==122||(f==76||(f==74||(f==47||(f==48||f==25))))
def vg(S:Self):Self:=kG vz (kG (rP 74) (kG (pj 47) (kG (qP 48) (kG vk S))))
def W1(S:Self):Self:=kG (vm (vg S)) (vg S)
theorem OY{f:Nat}(h:cF f=false):(vg S).call f xs st=S.call f xs st:=by unfold cF at h;simp only[J3]at h;unfold vg;rw[fT (tF (ne_of_beq_false h.2.1)),fT (wi (ne_of_beq_false h.2.2.1)),fT (BK (ne_of_beq_false h.2.2.2.1)),fT (Iu (ne_of_beq_false h.2.2.2.2.1)),fT (Qu (ne_of_beq_false h.2.2.2.2.2))]
theorem zV{f:Nat}(h:cF f=false):(W1 S).call f xs st=S.call f xs st:=by have h':=h;unfold cF at h;simp only[J3]at h;unfold W1;rw[fT (LR (ne_of_beq_false h.1)),OY h']
theorem NK(S:Self)(hS:cq prog S):cq prog (vg S):=
 yB Uv _ (yB (YJ fun b es c w h=>YI b es c w h) _ (yB WI _ (yB VP _ (yB aas _ hS))))
theorem Lm{r:AV× St}(h:pj 47 47 xs st=some r):(vg S).call 47 xs st=some r:=by unfold vg;rw[fT (tF (by decide)),fT (wi (by decide))];exact th h
theorem NW(S:Self)(hS:cq prog S):cq prog (W1 S):=
 yB (Fre.ok _ (NK S hS) (fun _=>Lm NA) fun h1 h2 h3 h4=>Lm (Oh h1 h2 h3 rfl h4)) _ (NK S hS)
def W0(S:Self):Self:=ic G0 jQ (Lg G1 (yA G4 jQ (yA G2 (W1 S) (qo G3 rj (W1 S)))))
def Wc(c:Option Self)(S:Self):Self:=match c with
 |none=>W0 S
 |some S7=>ic (fun f=>f==9) S7 (W0 S)
def Tw(c:Option Self)(n:Nat):Self:=xI prog (Wc c) n
theorem KM:cq prog jQ:=vt (Gv FB) mixedOrders (fun _ h=>h) 200
theorem LD(S:Self)(hS:cq prog S):cq prog (W0 S):=Hx _ _ KM (abr _ (Qq _ _ KM (Qq _ _ (NW _ hS) (VI _ (NW _ hS)))))
theorem Ku(hc:∀ S,c=some S->cq prog S)(n:Nat):cq prog (Tw c n):=by
 refine vt (Gv FB) mixedOrders (fun S hS=>?_) n;cases c with
 |none=>exact LD S hS
 |some S7=>exact Hx _ _ (hc S7 rfl) (LD S hS)
section
variable {f : Nat}{fn : Func}{code : Code}
def aV(c:Option Self)(n:Nat)(fn:Func)(code:Code)(xs:List AV)(st:St):Option (AV× St):=
 eE prog fn.results.toList (ao code ⟨prog,Tw c n,false,fn.ntmps,n⟩ (tmpsOf xs 0 .lf) st)
theorem tH(h7:c=none\/f≠9):(Tw c (n+1)).call f xs st=(W0 ⟨ke prog (Tw c n) n,fun nt c' t st=>ao c' ⟨prog,Tw c n,true,nt,n⟩ t st,ke prog (Tw c n) n⟩).call f xs st:=by
 show(Wc c _).call f xs st=_
 cases c with
 |none=>rfl
 |some S7=>exact l9 (beq_false_of_ne (h7.resolve_left (by simp)))
theorem dt(h:(f==9||(cF f||(G0 f||(G1 f||(G4 f||(G2 f||G3 f))))))=false)(hf:prog.funcs[f]? = some fn)(hb:fn.body=some code)(hn:xs.length<=fn.ntmps)(hd:defers 4 code=false:=by rfl):
  (Tw c (n+1)).call f xs st=aV c n fn code xs st:=by
 simp only[J3]at h;rw[tH (.inr (ne_of_beq_false h.1))];show(ic G0 jQ (ic G1 _ _)).call f xs st=_
 rw[l9 h.2.2.1,l9 h.2.2.2.1,oH h.2.2.2.2.1,oH h.2.2.2.2.2.1,CJ h.2.2.2.2.2.2,zV h.2.1];exact rQ hf hb hn hd
theorem aaw{f:FuncId}(h:G1 f=true):G2 f=false/\G3 f=false/\G4 f=false/\cF f=false:=by unfold G1 at h;rw[J4]at h;simp only[Q2,J5,or_false]at h;rcases h with rfl|rfl|rfl|rfl|rfl|rfl|rfl|rfl|rfl|rfl|rfl|rfl|rfl|rfl|rfl|rfl|rfl<;>exact⟨rfl,rfl,rfl,rfl⟩
theorem ZH{f:FuncId}(h:G2 f=true):cF f=false:=by unfold G2 at h;rw[J4]at h;simp only[Q2,J5,or_false]at h;rcases h with rfl|rfl|rfl|rfl|rfl|rfl<;>rfl
theorem Rs{f:FuncId}(h:G3 f=true):cF f=false:=by unfold G3 at h;rw[J4]at h;simp only[Q2,J5,or_false]at h;rcases h with rfl|rfl|rfl|rfl|rfl|rfl|rfl|rfl|rfl<;>rfl
theorem jc{X:List Nat}(h0:G0 f=false)(h1:G1 f=true)(h7:c=none\/f≠9)(hx:gH X st xs ys)(hf:prog.funcs[f]? = some fn)(hb:fn.body=some code)(hn:ys.length<=fn.ntmps)(hv:zg v=true)
  (he:tW (aV c n fn code ys aK) v) (hd:defers 4 code=false:=by rfl):(Tw c (n+1)).call f xs st=some (v,st):=by
 obtain⟨s,he⟩:=he;rw[tH h7];show(ic G0 jQ (ic G1 _ _)).call f xs st=_
 rw[l9 h0];refine Ja h1 hx (s1:=s) ?_ hv;obtain⟨g2,g3,g4,g5⟩:=aaw h1;rw[oH g4,oH g2,CJ g3,zV g5];exact(rQ hf hb hn hd).trans he
def Eo(o:Option (AV× St))(v:AV):Prop:=∃ v1 s,o=some (v1,s)/\Fz 0 s v1 v
theorem Em(h0:G0 f=false)(h1:G1 f=false)(h4:G4 f=false)(h2:G2 f=true)(h7:f≠9)(hx:aQ xs=true)(hf:prog.funcs[f]? = some fn)(hb:fn.body=some code)(hn:xs.length<=fn.ntmps)(hv:bg v=true)
  (he:Eo (aV c n fn code xs aK) v) (hd:defers 4 code=false:=by rfl):(Tw c (n+1)).call f xs st=some (v,st):=by
 obtain⟨v1,s,he,hz⟩:=he;rw[tH (.inr h7)];show(ic G0 jQ (ic G1 _ _)).call f xs st=_
 rw[l9 h0,l9 h1,oH h4];exact Ob h2 hx ((zV (ZH h2)).trans ((rQ hf hb hn hd).trans he)) hz hv
theorem vi{v1:AV}(h0:G0 f=false)(h1:G1 f=false)(h4:G4 f=false)(h2:G2 f=false)(h3:G3 f=true)(h7:f≠9)(hf:prog.funcs[f]? = some fn)(hb:fn.body=some code)(hn:xs.length<=fn.ntmps)
  (he:aV c n fn code xs st=some (v1,s)) (hz:Fz st.next s v1 v) (hd:defers 4 code=false:=by rfl) (hw:f≠24:=by decide):(Tw c (n+1)).call f xs st=some (v,s.shut st.next):=by
 rw[tH (.inr h7)];show(ic G0 jQ (ic G1 _ _)).call f xs st=_
 rw[l9 h0,l9 h1,oH h4,oH h2];exact abl h3 (aaH hw) ((zV (Rs h3)).trans ((rQ hf hb hn hd).trans he)) hz
def raw(c:Option Self)(n:Nat):Self:=vg ⟨ke prog (Tw c n) n,fun nt c' t st=>ao c' ⟨prog,Tw c n,true,nt,n⟩ t st,ke prog (Tw c n) n⟩
theorem UJ(h:cF f=false)(hf:prog.funcs[f]? = some fn)(hb:fn.body=some code)(hn:xs.length<=fn.ntmps)(hd:defers 4 code=false:=by rfl):(raw c n).call f xs st=aV c n fn code xs st :=
 (OY h).trans (rQ hf hb hn hd)
theorem tx(h7:f≠9)(h0:G0 f=false)(h1:G1 f=false)(h4:G4 f=false)(h2:G2 f=false)(h3:G3 f=false)(h5:f≠122):(Tw c (n+1)).call f xs st=(raw c n).call f xs st:=by
 rw[tH (.inr h7)];show(ic G0 jQ (ic G1 _ _)).call f xs st=_
 rw[l9 h0,l9 h1,oH h4,oH h2,CJ h3];show(kG _ _).call f _ st=_
 rw[fT (LR h5)];rfl
theorem Tg(h1:aQ cells=true)(h2:cells.length=7)(h3:sY (raw c n) cells=some v):(Tw c (n+1)).call 122 [.ag cells] st=some (v,st):=by
 rw[tH (.inr (by decide))];show(ic G0 jQ (ic G1 _ _)).call 122 _ st=_
 rw[l9 rfl,l9 rfl,oH rfl,oH rfl,CJ rfl];exact th (Yj h1 h2 h3)
theorem FK(h:mI st)(h2:m<9223372036854775808):(Tw c (n+1)).call 76 [.i .i64 (m:Int)] st=some (.s (ja m),st):=by rw[tx (by decide) rfl rfl rfl rfl rfl (by decide)];exact th (Wj h h2)
theorem UQ{es:List (AV× AV× Nat)}(h:st.get r=some (.mp es k)):(Tw c (n+1)).call 74 [.m r] st=some (.m st.next,st.new (.mp es k)):=by
 rw[tx (by decide) rfl rfl rfl rfl rfl (by decide)];show(kG _ _).call 74 _ st=_
 rw[fT (tF (by decide))];exact th (Tp h)
theorem Yr(hf:prog.funcs[74]? = some fn)(hb:fn.body=some code)(hn:xs.length<=fn.ntmps)(hx:xs=[.mn])(hd:defers 4 code=false:=by rfl):(Tw c (n+1)).call 74 xs st=aV c n fn code xs st:=by
 rw[tx (by decide) rfl rfl rfl rfl rfl (by decide)];show(kG _ _).call 74 _ st=_
 subst hx;rw[fT (tF (by decide)),fT abA,fT (BK (by decide)),fT (Iu (by decide)),fT (Qu (by decide))];exact rQ hf hb hn hd
theorem abe:(Tw c (n+1)).call 47 [.sn] st=some (.tu [],st):=by
 rw[tx (by decide) rfl rfl rfl rfl rfl (by decide)];show(kG _ _).call 47 _ st=_
 rw[fT (tF (by decide)),fT (wi (by decide))];exact th NA
theorem abt(h1:0<m)(h2:m<4611686018427387904)(h3:rd st r o m=some (ss.map .s))(h5:wt st r o ((ek ss).map .s)=some st'):(Tw c (n+1)).call 47 [.sl r o m z q] st=some (.tu [],st'):=by
 rw[tx (by decide) rfl rfl rfl rfl rfl (by decide)];show(kG _ _).call 47 _ st=_
 rw[fT (tF (by decide)),fT (wi (by decide))];exact th (Oh h1 h2 h3 rfl h5)
theorem RW:(Tw c (n+1)).call 48 [.sn] st=some (.sn,st):=by
 rw[tx (by decide) rfl rfl rfl rfl rfl (by decide)];show(kG _ _).call 48 _ st=_
 rw[fT (tF (by decide)),fT (wi (by decide)),fT (BK (by decide))];exact th acW
theorem Wg(h1:0<m)(h2:m<4611686018427387904)(h3:rd st r o m=some (ss.map .s))(h5:wt st r o ((nh m ss).map .s)=some st'):(Tw c (n+1)).call 48 [.sl r o m z q] st=some (.sl r o (lM ss).length z q,st'):=by
 rw[tx (by decide) rfl rfl rfl rfl rfl (by decide)];show(kG _ _).call 48 _ st=_
 rw[fT (tF (by decide)),fT (wi (by decide)),fT (BK (by decide))];exact th (T0 h1 h2 h3 rfl h5)
theorem VW{l:List AV}(h1:0<m)(h2:m<4611686018427387904)(h3:rd st r o (m*8)=some l)(h4:xq l m=true)(h5:bq l=true)(h6:wt st r o (ur l m)=some st'):(Tw c (n+1)).call 25 [.sl r o m 8 q,.f (.func 26) [] []] st=some (.tu [],st'):=by
 rw[tx (by decide) rfl rfl rfl rfl rfl (by decide)];show(kG _ _).call 25 _ st=_
 rw[fT (tF (by decide)),fT (wi (by decide)),fT (BK (by decide)),fT (Iu (by decide))];exact th (RQ h1 h2 h3 h4 h5 h6)
end
theorem SU:isStr prog 9=true:=by kernel_rfl
def GV(s:ah)(i:Nat):Prop:=∀ j (h:j<s.length),j<i->33<=s[j]/\s[j]<=126
theorem aam{s:ah}(h1:1<=s.length)(h2:s.length<=65536)(h:GV s s.length):named s=true:=by unfold named;simp only[h1,h2,decide_true,Bool.true_and,Q4];intro b hb;obtain⟨j,hj,rfl⟩:=List.getElem_of_mem hb;have:=h j hj hj;grind
theorem Td{s:ah}(hi:i<s.length)(h:¬ (33<=s[i]/\s[i]<=126)):named s=false:=by grind[named,List.getElem_mem]
theorem Md{s:ah}(h:s.length<1\/65536<s.length):named s=false:=by grind[named]
theorem yL(s:ah)(hN:10000000000000000000<=N):(Tw c N).call 63 [.s s] st=some (.b (named s),st):=by
 obtain⟨N,rfl⟩:∃ N',N=N'+1:=⟨N-1,by omega⟩;refine jc (X:=[]) rfl rfl (.inr (by decide)) (.pure rfl) func63 rfl (Q0 rfl) rfl ?_;unfold aV;have ln:=fun st:St=>ab3 (st:=st) underlying9 s
 by_cases h1:s.length<1
 ·simp_all[Md,aG,aF]
 ·have e1:¬ (s.length:Int)<1:=by omega
  by_cases h2:65536<s.length
  ·have e2:(65536:Int)<(s.length:Int):=by omega
   rw[Md (.inr h2)];simp[f63,ln,e1,e2,aG,aF]
  ·have e2:¬ (65536:Int)<(s.length:Int):=by omega
   simp[f63,ln,e1,e2,bw];generalize hL:bf _ _ _ _=L;have lr:=fW hL 0 s.length (fun i t _=>ab t 0=.s s/\ab t 13=.i .i64 (s.length:Int)/\ab t 14=.i .i64 (i:Int)/\GV s i) (fun _ _=>GV s s.length) (fun t _=>ab t 2=.b false/\named s=false) (by omega)
    ⟨by simp,by simp,by simp,fun j hj h=>by omega⟩
    (by
     rintro i t st hi ⟨i0,i13,i14,iN⟩;clear hL;have e3:(i:Int)<(s.length:Int):=by omega
     have e4:wr .i64 ((i:Int)+1)=((i+1:Nat):Int):=by rw[aZ (by omega) (by omega)];rfl
     have ix:=VF SU hi;by_cases hb:(33<=s[i]/\s[i]<=126)
     ·left;have e5:¬ (s[i]:Int)<33:=by omega
      have e6:¬ (126:Int)<(s[i]:Int):=by omega
      simp[i0,i13,i14,e3,ix,e5,e6,e4];intro j hj hji;by_cases hje:j=i
      ·subst hje;exact hb
      ·exact iN j hj (by omega)
     ·right;have hn:=Td hi hb;by_cases h5:(s[i]:Int)<33
      ·simp[i0,i13,i14,e3,ix,h5];exact hn
      ·have h6:(126:Int)<(s[i]:Int):=by omega
       simp[i0,i13,i14,e3,ix,h5,h6];exact hn)
    (by rintro t st ⟨i0,i13,i14,iN⟩;clear hL;simp[i13,i14];exact iN)
   clear hL;rcases lr with ⟨t1,s1,rfl,hT⟩|⟨t1,s1,rfl,hT,hF⟩
   ·rw[aam (by omega) (by omega) hT];simp[aG,aF]
   simp_all[aG,aF]
theorem Ng(s:ah)(hv:de v (l.map .s))(hl:l.length<=9223372036854775807)(hN:10000000000000000000<=N):
  ∃ n:Int,(Tw c N).call 71 [v,.s s] st=some (.i .i64 n,st)/\(0<=n↔s∈l):=by
 obtain⟨N,rfl⟩:∃ N',N=N'+1:=⟨N-1,by omega⟩;have hp:aQ [v,.s s]=true:=by simp[aQ,bg,hv.pure (jD l)]
 suffices h:∃ n:Int,tW (aV c N f71 (f71.body.getD .skip) [v,.s s] aK) (.i .i64 n)/\(0<=n↔s∈l) by obtain⟨n,h1,h2⟩:=h;exact⟨n,jc (X:=[]) rfl rfl (.inr (by decide)) (.pure hp) func71 rfl (Q0 rfl) rfl h1,h2⟩
 unfold aV;have ln:=fun st:St=>hv.sLen (st:=st) gz
 simp[f71,ln,bw];generalize hL:bf _ _ _ _=L;have lr:=fW hL 0 l.length (fun i t _=>ab t 0=v/\ab t 1=.s s/\ab t 7=.i .i64 (l.length:Int)/\ab t 8=.i .i64 (i:Int)/\s∉l.take i) (fun _ _=>s∉l) (fun t _=>∃ n:Nat,ab t 4=.i .i64 (n:Int)/\s∈l) (by omega)
  ⟨by simp,by simp,by simp,by simp,by simp⟩
  (by
   rintro i t st hi ⟨i0,i1,i7,i8,iN⟩;have e3:(i:Int)<(l.length:Int):=by omega
   have e4:wr .i64 ((i:Int)+1)=((i+1:Nat):Int):=by rw[aZ (by omega) (by omega)];rfl
   obtain⟨a,ix,ld⟩:=hv.sat gz nU hi;by_cases hb:s=l[i]
   ·simp[i0,i1,i7,i8,e3,ix,ld,cM,hb];grind
   ·simp[i0,i1,i7,i8,e3,ix,ld,cM,hb,e4];rw[<-J6 hi,List.mem_append,not_or];exact⟨iN,by simpa using hb⟩)
  (by rintro t st ⟨i0,i1,i7,i8,iN⟩;simp[i7,i8];simpa using iN)
 rcases lr with ⟨t1,s1,rfl,hT⟩|⟨t1,s1,rfl,n,hT,hF⟩
 ·exact⟨-1,by simp[aG,aF],by simp[hT]⟩
 ·exact⟨n,by simp[hT,aG,aF],by simp[hF]⟩
theorem Hp(s:ah)(hv:de v (l.map .s))(hl:l.length<=9223372036854775807)(hN:10000000000000000001<=N):
  (Tw c N).call 38 [v,.s s] st=some (.b (decide (s∈l)),st):=by
 obtain⟨N,rfl⟩:∃ N',N=N'+1:=⟨N-1,by omega⟩;have hp:aQ [v,.s s]=true:=by simp[aQ,bg,hv.pure (jD l)]
 refine jc (X:=[]) rfl rfl (.inr (by decide)) (.pure hp) func38 rfl (Q0 rfl) rfl ?_;unfold aV;obtain⟨n,h1,h2⟩:=Ng (c:=c) (st:=aK) s hv hl (N:=N) (by omega);simp[f38,h1,aG,aF,h2]
theorem gW:rz prog 49 4 (.b false):=⟨⟨9,underlying49,underlying9⟩,by kernel_rfl⟩
def iD(l:List ah):ah->Option AV:=fun x=>if x∈l then some (.b true) else none
theorem wX(l:List ah)(s:ah):upd (iD l) s (.b true)=iD (l++[s]):=by grind[upd,iD]
theorem ze(l:List ah)(s:ah):(iD l s).getD (.b false)=.b (decide (s∈l)):=by grind[iD]
theorem YM(hi:i<l.length)(h:eS (l.take i)=true)(h1:named l[i]=true)(h2:l[i]∉l.take i):eS (l.take (i+1))=true:=by grind[J6,eS]
theorem ZC(hi:i<l.length)(h1:named l[i]=false):eS l=false:=by grind[eS]
theorem Uz(hi:i<l.length)(h1:l[i]∈l.take i):eS l=false:=by grind[eS,List.take_append_drop]
theorem CR(hv:de v (l.map .s))(hl:l.length<=9223372036854775807)(hN:10000000000000000001<=N):
  (Tw c N).call 35 [v] st=some (.b (eS l),st):=by
 obtain⟨N,rfl⟩:∃ N',N=N'+1:=⟨N-1,by omega⟩;have hp:aQ [v]=true:=by simp[aQ,hv.pure (jD l)]
 refine jc (X:=[]) rfl rfl (.inr (by decide)) (.pure hp) func35 rfl (Q0 rfl) rfl ?_;unfold aV;have ln:=fun st:St=>hv.sLen (st:=st) gz
 simp[f35,ln,bw];have hm:=cS.new aK;obtain⟨r,hr⟩:∃ r,aK.next=r:=⟨_,rfl⟩;obtain⟨s0,hs0⟩:∃ s,aK.new (.mp [] 0)=s:=⟨_,rfl⟩;rw[hr,hs0]at hm;rw[hr,hs0];generalize hL:bf _ _ _ _=L;have lr:=fW hL 0 l.length (fun i t s=>ab t 3=.m r/\ab t 7=v/\ab t 8=.i .i64 (l.length:Int)/\ab t 9=.i .i64 (i:Int)/\cS s r (iD (l.take i))/\eS (l.take i)=true)
  (fun _ _=>eS l=true) (fun t _=>ab t 2=.b false/\eS l=false) (by omega)
  ⟨by simp,by simp,by simp,by simp,hm,by simp[eS]⟩
  (by
   rintro i t s hi ⟨i3,i7,i8,i9,iM,iN⟩;clear hL;have e3:(i:Int)<(l.length:Int):=by omega
   have e4:wr .i64 ((i:Int)+1)=((i+1:Nat):Int):=by rw[aZ (by omega) (by omega)];rfl
   obtain⟨a,ix,ld⟩:=hv.sat gz nU hi;have nm:=fun st:St=>yL (c:=c) (st:=st) l[i] (N:=N) (by omega)
   have lk:=iM.get gW l[i];rw[ze]at lk;obtain⟨s',u1,u2,-,-⟩:=iM.set gW l[i] (.b true);cases hn:named l[i] with
   |false =>right;simp[i7,i8,i9,e3,ix,ld,nm,hn];exact ZC hi hn
   |true =>
    by_cases hs:l[i]∈l.take i
    ·right;simp[i3,i7,i8,i9,e3,ix,ld,nm,hn,lk,hs];exact Uz hi hs
    ·left;simp[i3,i7,i8,i9,e3,e4,ix,ld,nm,hn,lk,hs,u1];rw[wX,J6 hi]at u2;exact⟨_,_,⟨rfl,rfl⟩,by simp[i3],by simp[i7],by simp[i8],by simp,u2,YM hi iN hn hs⟩)
  (by rintro t s ⟨i3,i7,i8,i9,iM,iN⟩;clear hL;simp[i8,i9];simpa using iN)
 clear hL;rcases lr with ⟨t1,s1,rfl,hT⟩|⟨t1,s1,rfl,hT,hF⟩
 ·rw[hT];simp[aG,aF]
 ·rw[hF];simp[hT,aG,aF]
def yn:Self:=xI prog (fun S=>S) 199
def GP:Option (AV× St):=(yn).call 109 [] aK
def Fg:List (AV× AV)->Bool
 |[]=>true
 |(.s x,_)::es=>es.all (fun e=>match e.1 with|.s y=>!leq x y|_=>false)&&Fg es
 |_=>false
def Nd:AV->Bool
 |.ag [s,f]=>(lenOf s).isSome&&(!lH s&&(bS s&&bS f))
 |_=>false
def PI:Option Row->Bool
 |some (.mu es)=>Fg es&&es.all (fun e=>Nd e.2)
 |_=>false
def Mz:Option (AV× St)->Bool
 |some (.m r,s)=>PI (s.get r)
 |_=>false
theorem abg:Mz GP=true:=by kernel_rfl
def ME(s:St):St:=(s.aw [.sn,.fn0]).ax s.next [.sn,.fn0] s.next
def Km:Option (AV× St):=match GP with|some (_,s)=>(yn).call 110 [] (ME s)|none=>none
def Db:List (AV× AV× Nat)->Bool
 |[]=>true
 |(.s _,.i .i64 _,_)::es=>Db es
 |_=>false
def GE:Option Row->Bool
 |some (.mp es _)=>Db es
 |_=>false
def Fe:Option (AV× St)->Bool
 |some (.m r,s)=>GE (s.get r)
 |_=>false
theorem Xk:Fe Km=true:=by kernel_rfl
theorem MN:∀ {a b:List Nat},leq a b=true↔a=b
 |[],[]=>by simp[leq]
 |[],_::_=>by simp[leq]
 |_::_,[]=>by simp[leq]
 |a::x,b::y=>by
  have ih:=MN (a:=x) (b:=y);simp only[leq,bu];by_cases h:a=b
  ·simp[h,ih]
  ·simp[h]
theorem Pi{l:List Nat}:∀ {es:List (AV× AV)},Fg es=true->(∃ v,mq (.s l) es=some (some v)/\∃ k,(k,v)∈es)\/(mq (.s l) es=some none)
 |[],_=>.inr rfl
 |(.s x,v)::es,h=>by
  simp only[Fg,Q7]at h;have ih:=Pi (l:=l) h.2;have he:ju (.s l) (.s x)=some (leq l x):=rfl;by_cases hx:leq l x=true
  ·have hx':=MN.1 hx;subst hx';have hnone:∀ {fs:List (AV× AV)},fs.all (fun e=>match e.1 with|.s y=>!leq l y|_=>false)=true->mq (.s l) fs=some none:=by
    intro fs;induction fs with
    |nil=>intro _;rfl
    |cons f fs ihf =>
     intro hall;rw[List.all_cons,Q7]at hall;obtain⟨kf,vf⟩:=f;cases kf<;>first|(simp at hall;done)|skip
     rename_i y;have h1:leq l y=false:=by simpa using hall.1
     have e1:ju (.s l) (.s y)=some (leq l y):=rfl;simp only[mq,e1,h1];exact ihf hall.2
   left;refine⟨v,?_,.s l,List.mem_cons_self ..⟩;simp only[mq,he,hx,hnone h.1]
  ·have hx':leq l x=false:=by simpa using hx
   rcases ih with ⟨u,h1,k,h2⟩|h1
   ·left;refine⟨u,?_,k,List.mem_cons_of_mem _ h2⟩;simp only[mq,he,hx',h1]
   ·right;simp only[mq,he,hx',h1]
theorem Gn{l:List Nat}:∀ {es:List (AV× AV× Nat)}{n:Nat},Db es=true->(∃ i v,find (.s l) es n=some (some (i,.i .i64 v)))\/find (.s l) es n=some none
 |[],n,_=>.inr rfl
 |(.s x,.i .i64 v,c)::es,n,h=>by
  simp only[Db]at h;have he:ju (.s l) (.s x)=some (leq l x):=rfl;by_cases hx:leq l x=true
  ·left;exact⟨n,v,by simp only[find,he,hx]⟩
  ·have hx':leq l x=false:=by simpa using hx
   rcases Gn (l:=l) (n:=n+1) h with ⟨i,u,h1⟩|h1
   ·left;exact⟨i,u,by simp only[find,he,hx',h1]⟩
   ·right;simp only[find,he,hx',h1]
theorem Fv:bm prog 157=some [.sn,.fn0]:=by kernel_rfl
theorem aax:zeroOf prog 157=some (.ag [.sn,.fn0]):=by kernel_rfl
theorem WQ:zeroOf prog 3=some (.i .i64 0):=by kernel_rfl
@[simp] theorem Fw:bp prog 157=true:=by kernel_rfl
theorem GM:aD prog 157=2:=by kernel_rfl
@[simp] theorem aeM:ey prog 157 0=some 0:=by kernel_rfl
@[simp] theorem afD:bp prog 154=true:=by kernel_rfl
@[simp] theorem aes:et prog 154=false:=by kernel_rfl
theorem Zq(l:List Nat):kV prog 159 (.s l)=true:=by kernel_rfl
theorem RR(l:List Nat):kV prog 149 (.s l)=true:=by kernel_rfl
theorem QK{es:List (AV× AV)}{l:List Nat}(h:s.get r=some (.mu es)):lookup prog 159 s (.m r) (.s l) true=match mq (.s l) es with|some (some v)=>some (.tu [v,.b true])|some none=>some (.tu [.ag [.sn,.fn0],.b false])|none=>none:=by unfold lookup;simp only[underlying159,aax,h,Zq];rcases mq (.s l) es with _|_|v<;>rfl
theorem Ma{c:Nat}{es:List (AV× AV× Nat)}{l:List Nat}(h:s.get r=some (.mp es c)):lookup prog 149 s (.m r) (.s l) true=match find (.s l) es 0 with|some (some (_,v))=>some (.tu [v,.b true])|some none=>some (.tu [.i .i64 0,.b false])|none=>none:=by unfold lookup;simp only[underlying149,WQ,h,RR];rcases find (.s l) es 0 with _|_|⟨i,v⟩<;>rfl
theorem abL(h1:(lenOf v).isSome=true)(h2:lH v=false){e:TypeId}(h:P.underlying ty=some (.slice e)):∃ n:Nat,ft P st [ty] [v]=some (.i .i64 (n:Int),st):=by obtain⟨n,hn⟩:=Option.isSome_iff_exists.1 h1;exact⟨n,aY h hn h2⟩
@[simp] theorem aeR:bS .fn0=true:=rfl
theorem Re(l:List Nat):∃ n st',ke prog (yn) 199 75 [.s l] aK=some (.i .i64 n,st'):=by
 have h1:=abg;unfold Mz at h1;split at h1<;>first|(cases h1;done)|skip
 rename_i r s htab;unfold PI at h1;split at h1<;>first|(cases h1;done)|skip
 rename_i es hrow;rw[Q7]at h1;obtain⟨hk,hall⟩:=h1;have hT:(yn).call 109 [] aK=some (.m r,s):=htab;rw[rQ func75 rfl (Q0 rfl)];rcases Pi hk with ⟨v,hv,k,hkv⟩|hv
 ·have hev:=Q4.1 hall _ hkv;unfold Nd at hev;split at hev<;>first|(cases hev;done)|skip
  rename_i sv fv heq;have hvv:v=.ag [sv,fv]:=heq;subst hvv;simp only[Q7,Bool.not_eq_true']at hev;obtain⟨e1,e2,e3,e4⟩:=hev;have hlk:=QK (l:=l) hrow;rw[hv]at hlk;obtain⟨s2,w1,w2,-,-⟩:=cO (s:=s) (z:=[.sn,.fn0]) (cells:=[sv,fv]) rfl (by simp[e3,e4]);obtain⟨n,hn⟩:=abL (st:=s2) e1 e2 underlying154;refine⟨n,s2,?_⟩;simp[f75,hT,hlk,aJ,Fv,aI Fw GM,w1,au w2,hn,aG,aF]
 ·have hlk:=QK (l:=l) hrow;rw[hv]at hlk;have hw:=bP (cz (st:=s) [.sn,.fn0]) 0 [.sn,.fn0] (by simp) (by simp);have hs1:(s.aw [.sn,.fn0]).ax s.next (bO [.sn,.fn0] 0 [.sn,.fn0]) s.next=ME s:=rfl;rw[hs1]at hw;have h2:=Xk;unfold Fe Km at h2;have htab':GP=some (.m r,s):=htab;rw[htab']at h2;simp only at h2;split at h2<;>first|(cases h2;done)|skip
  rename_i r2 s2 hoth;unfold GE at h2;split at h2<;>first|(cases h2;done)|skip
  rename_i es2 c2 hrow2;have hl2:=Ma (l:=l) hrow2;rcases Gn (l:=l) (n:=0) h2 with ⟨i,n,hf⟩|hf
  ·rw[hf]at hl2;refine⟨n,s2,?_⟩;simp[f75,hT,hlk,aJ,Fv,aI Fw GM,hw,hoth,hl2,aG,aF]
  ·rw[hf]at hl2;refine⟨-1,s2,?_⟩;simp[f75,hT,hlk,aJ,Fv,aI Fw GM,hw,hoth,hl2,aG,aF]
def wF:Option (AV× St)->Option AV
 |some (v,_)=>some v
 |none=>none
theorem Zf{o:Option (AV× St)}(h:wF o=some v):∃ s,o=some (v,s):=by
 cases o with
 |none=>cases h
 |some p=>cases h;exact⟨_,rfl⟩
theorem Th:wF (jQ.call 62 [.i .i64 0] aK)=some (.i .i64 0):=by kernel_rfl
theorem Sw:wF (jQ.call 62 [.i .i64 8] aK)=some (.i .i64 1):=by kernel_rfl
theorem aa5:wF (jQ.call 62 [.i .i64 9] aK)=some (.i .i64 2):=by kernel_rfl
theorem abN:wF (jQ.call 62 [.i .i64 2] aK)=some (.i .i64 3):=by kernel_rfl
theorem wj{f:Nat}{X:List Nat}(h0:G0 f=true)(h7:f≠9)(hx:gH X st xs ys)(h:wF (jQ.call f ys aK)=some v)(hv:zg v=true)(hN:1<=N):(Tw c N).call f xs st=some (v,st):=by obtain⟨N,rfl⟩:∃ N',N=N'+1:=⟨N-1,by omega⟩;obtain⟨s,h⟩:=Zf h;rw[tH (.inr h7)];exact Ja h0 hx h hv
def FD(e:Int):Int:=if e=0 then 0 else if e=8 then 1 else if e=9 then 2 else 3
def wH(e:Int):Prop:=e=0\/e=8\/e=9\/e=2
theorem MC{e:Int}(he:wH e)(hN:1<=N):(Tw c N).call 62 [.i .i64 e] st=some (.i .i64 (FD e),st):=by
 rcases he with rfl|rfl|rfl|rfl
 ·exact wj (X:=[]) rfl (by decide) (.pure rfl) Th rfl hN
 ·exact wj (X:=[]) rfl (by decide) (.pure rfl) Sw rfl hN
 ·exact wj (X:=[]) rfl (by decide) (.pure rfl) aa5 rfl hN
 ·exact wj (X:=[]) rfl (by decide) (.pure rfl) abN rfl hN
def OP:Option (AV× St):=yn.call 107 [] aK
theorem Xv:Fe OP=true:=by kernel_rfl
theorem Qh(l:List Nat):∃ n st',jQ.call 70 [.s l] aK=some (.i .i64 n,st'):=by
 show ∃ n st',ke prog yn 199 70 [.s l] aK=some (.i .i64 n,st')
 have h2:=Xv;unfold Fe OP at h2;split at h2<;>first|(cases h2;done)|skip
 rename_i r2 s2 hoth;unfold GE at h2;split at h2<;>first|(cases h2;done)|skip
 rename_i es2 c2 hrow2;have hl2:=Ma (l:=l) hrow2;rw[rQ func70 rfl (Q0 rfl)];rcases Gn (l:=l) (n:=0) h2 with ⟨i,n,hf⟩|hf
 ·rw[hf]at hl2;refine⟨n,s2,?_⟩;simp[f70,hoth,hl2,aG,aF]
 ·rw[hf]at hl2;refine⟨-1,s2,?_⟩;simp[f70,hoth,hl2,aG,aF]
def DR(l:ah):Int:=(Qh l).choose
def strF(l:ah):Int:=(Re l).choose
theorem Vi(l:ah)(hN:1<=N):(Tw c N).call 70 [.s l] st=some (.i .i64 (DR l),st):=by obtain⟨s,h⟩:=(Qh l).choose_spec;exact wj (X:=[]) rfl (by decide) (.pure rfl) (by rw[h];rfl) rfl hN
theorem Ze(l:ah)(hN:1<=N):(Tw c N).call 75 [.s l] st=some (.i .i64 (strF l),st):=by obtain⟨s,h⟩:=(Re l).choose_spec;exact wj (X:=[]) rfl (by decide) (.pure rfl) (by rw[show jQ.call 75 [.s l] aK=_ from h];rfl) rfl hN
def Mv(f:ah)(x:Nat):Bool:=match wF (jQ.call 105 [.s [x],.rp [.s f]] aK) with
 |some (.b y)=>y==f.contains x
 |_=>false
def tz:List ah:=[[110],[105],[110,97],[112,97],[97],[98,97],[97,99]]
theorem Wm:(tz.all fun f=>[110,105,112,98,97,99].all fun x=>Mv f x)=true:=by kernel_rfl
theorem wS{f:ah}(hf:f∈tz){x:Nat}(hx:x∈[110,105,112,98,97,99]){r:AV}{X:List Nat}(hr:gF X st r (.rp [.s f]))(hN:1<=N):(Tw c N).call 105 [.s [x],r] st=some (.b (f.contains x),st):=by
 have h:=Q4.1 (Q4.1 Wm f hf) x hx;unfold Mv at h;split at h
 ·rename_i y hy;have:y=f.contains x:=by simpa using h
  subst this;exact wj rfl (by decide) (.cons (.pure rfl) (.cons hr .nil)) hy rfl hN
 ·cases h
