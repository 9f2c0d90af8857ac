/- A part of the proof. -/
import Derived.Test.YtjpheibfljmbjaaGreatDoorS02
import Derived.Lib.Builder
import Derived.Lib.ConvBytes
import Derived.Laws.BytesArg
open Int renaming ofNat->Q0
open Go.Builtin renaming append_->Q1, firstCells->Q2, zeroCells->J9, nextslicecap->Z4, lenOf->Z7, growBy->Z8, clear_->V1, len_->Y9, cap_->W8, max_->I4
open Go.Sem renaming run_bind->Q3, run_pure->Q8, run->X8, run_ite->U1
open Go.Result renaming andThen_ok->Q4
open Nat renaming le_of_ble_eq_true->Q6, le_refl->Q9, ble->J5, ble_eq_true_of_le->J6, add_mul->Z9, mul_le_mul_right->V3, blt_eq->V9, zero_mul->X6, add_zero->X7, beq->Y4, sub_mul->U5, sub_self->U6, mul_eq_zero->M8
open Go.Instr renaming sameNow->Q7, findNow->J1, findKey->J3, sliceBounds->J4, sliceAt->J8, indexAt->Z3, lookup->Z5, next->V0, sureAddr->V2, checkKey->V6, entry->V8, fieldAt->X0, index->X4, slice->X5, sameBits->Y2, mapUpdate->Y3, mapEntry->Y5, fill->Y6, build->Y7, sliceBound->U3, keyThatStays->L1, entryStore->M6, buildSlice->M9, range->R9, extract->I3
open Bool renaming and_eq_true->Z6, eq_iff_iff->O0, false_eq_true->I2
open Go.Question renaming cut->V4, appendCap->U9
open List renaming ext_getElem?->V7, mem_cons->X9, mem_cons_of_mem->Y0, mem_cons_self->Y1, map_drop->U2, map_take->U4, eq_nil_of_length_eq_zero->U7
open Array renaming range->Y8, toList_inj->I1
open Go.IntKind renaming i64->W9
open Go.Value renaming slice->U8
noncomputable section
namespace Go.Ev
variable {E : Env}{P : Program}{S : Self}{a b c cap len m n need o r sCap sLen z : Nat}{as : List AV}{base : Option Addr}{e t ty : TypeId}{h hv l y : Option Value}{hi lo mx : Option AV}{i u uk uv ux : Value}{ix k s v x : AV}{kd : TypeDesc}{parts : Array (Nat× Operand)}{st st' : St}{ts : List TypeId}{us : List Value}{w w' : World}{α : Type}{ρ : Operand->Value}
theorem xr(h:gk x=some n)(hx:Conc E x u):∃ k,u=.int k (Q0 n):=by obtain⟨k,rfl⟩:=Iy h;cases hx;grind
theorem Vz(h:ey P t n=some o):
  ∃ fs f,P.underlying t=some (.struct fs)/\fs[n]? = some f/\f.offset=o/\bp P f.type=true/\0<aD P f.type:=by
 grind[ey,fo,V9]
theorem PW(ho:ey P t n=some o)(h:fieldAt o st x=some (v,st'))(hx:Conc E x u):
  st'=st/\∃ z,(X0 t u n).run P w=.ok z w/\Conc E v z:=by
 obtain⟨fs,f,hu,hf,rfl,hi,hz⟩:=Vz ho;unfold fieldAt at h;have hz':¬ aD P f.type=0:=by omega
 have run:∀ a,(X0 t (.pointer (some a)) n).run P w=.ok (.pointer (some (a.add f.offset))) w:=by simp_all[X0,bQ,V2,fieldPlace,gU]
 cases h1:x.bW with
 |some ro =>
  obtain⟨r,k⟩:=ro;have:=AV.wV h1;subst this;cases h;cases hx with
  |p _ _ B hB =>refine⟨rfl,_,run _,?_⟩;rw[jA,show k+B.d+f.offset=k+f.offset+B.d by omega];exact .p r (k+f.offset) B hB
 |none =>
  cases h2:x.yQ with
  |none=>grind
  |some c =>
   have:=AV.Oy h2;subst this;cases h;cases hx with
   |rp _ b o vs hv hc =>refine⟨rfl,_,run _,?_⟩;rw[jA];refine .rp _ b (o+f.offset) (vs.drop f.offset) (fun j v hj=>?_) (hc.drop _);grind
theorem Kv{c:List AV}{vs:List Value}(hv:∀ (j:Nat) v,vs[j]? = some v->E.cell b (o+j)=some v)(hc:aP E c vs)(k:Nat):Conc E (.rp (c.drop k)) (.pointer (some ⟨b,o+k,none⟩)):=by refine .rp _ b (o+k) (vs.drop k) (fun j v hj=>?_) (hc.drop _);grind
theorem Jr(h:vD P t=some (n,z)):∃ e,P.underlying t=some (.array n e)/\bp P e=true/\aD P e=z:=by grind[vD,fo]
theorem qi(h:ez P t=some e):P.underlying t=some (.slice e):=by grind[ez]
theorem Lw(h:indexAddr P t x ix=some v)(hx:Conc E x u)(hi:Conc E ix i):
  ∃ z,(Z3 t u i).run P w=.ok z w/\Conc E v z:=by
 unfold indexAddr at h;cases hn:gk ix with
 |none=>grind
 |some k =>
  rw[hn]at h;obtain⟨kd,rfl⟩:=xr hn hi;cases hx<;>first|cases h|skip
  ·rename_i r o B hB;simp only at h;cases ha:vD P t with
   |none=>grind
   |some nz =>obtain⟨n,z⟩:=nz;rw[ha]at h;obtain⟨hb,h'⟩:=fo h;rw[V9]at hb;obtain⟨e,hu,hie,rfl⟩:=Jr ha;subst h';refine⟨_,?_,.p r (o+k*aD P e) B hB⟩;have e1:(0:Int)<=Q0 k/\Q0 k<(n:Int):=⟨by simp,by grind⟩;simp[Z3,asIntOf,bQ hu,V2,pure_bind,gU hie,jA];grind
  ·rename_i c b o vs hv hc;simp only at h;cases ha:vD P t with
   |none=>grind
   |some nz =>obtain⟨n,z⟩:=nz;rw[ha]at h;obtain⟨hb,h'⟩:=fo h;rw[V9]at hb;obtain⟨e,hu,hie,rfl⟩:=Jr ha;subst h';refine⟨_,?_,Kv hv hc (k*aD P e)⟩;have e1:(0:Int)<=Q0 k/\Q0 k<(n:Int):=⟨by simp,by grind⟩;simp[Z3,asIntOf,bQ hu,V2,pure_bind,gU hie,jA];grind
  ·rename_i r o n z c a hle hh;simp only at h;cases ha:ez P t with
   |none=>grind
   |some e =>
    rw[ha]at h;obtain⟨hb,h'⟩:=fo h;simp[bu]at hb;obtain⟨⟨hk,hie⟩,rfl⟩:=hb;have hu:=qi ha;subst h';rcases hh with rfl|⟨B,hB,rfl⟩
    ·omega
    ·refine⟨_,?_,.p r (o+k*aD P e) B hB⟩;have e1:(0:Int)<=Q0 k/\Q0 k<(n:Int):=⟨by simp,by grind⟩;simp[Z3,asIntOf,bQ hu,gU hie,jA];grind
  ·rename_i r o n z c a hle hh;simp only at h;cases ha:ez P t with
   |none=>grind
   |some e =>
    rw[ha]at h;obtain⟨hb,h'⟩:=fo h;simp[bu]at hb;obtain⟨⟨hk,hie⟩,rfl⟩:=hb;have hu:=qi ha;subst h';obtain⟨B,hB,hcc,-⟩:=hh;rcases hcc with rfl|rfl
    ·omega
    ·refine⟨_,?_,.p r (o+k*aD P e) B hB⟩;have e1:(0:Int)<=Q0 k/\Q0 k<(n:Int):=⟨by simp,by grind⟩;simp only[Z3,asIntOf,Q3,Q8,Q4,bQ hu,U1,e1,and_self,if_true,gU hie,jA];grind
  ·rename_i c n z kk b o vs hle hv hc;simp only at h;cases ha:ez P t with
   |none=>grind
   |some e =>rw[ha]at h;obtain⟨hb,h'⟩:=fo h;simp[bu]at hb;obtain⟨⟨hk,hie⟩,rfl⟩:=hb;have hu:=qi ha;subst h';refine⟨_,?_,Kv hv hc (k*aD P e)⟩;have e1:(0:Int)<=Q0 k/\Q0 k<(n:Int):=⟨by simp,by grind⟩;simp only[Z3,asIntOf,Q3,Q8,Q4,bQ hu,U1,e1,and_self,if_true,gU hie,jA];grind
  ·simp only at h;cases ha:ez P t with
   |none=>grind
   |some e =>
    rw[ha]at h;have hk:Nat.blt k 0=false:=by cases k<;>rfl
    simp_all
theorem LU(h:isStr P t=true):P.underlying t=some .string:=by grind[isStr]
theorem Rg(h:index P t x ix=some v)(hx:Conc E x u)(hi:Conc E ix i):
  ∃ z,(X4 t u i).run P w=.ok z w/\Conc E v z:=by
 unfold index at h;cases hn:gk ix with
 |none=>grind
 |some k =>
  rw[hn]at h;obtain⟨kd,rfl⟩:=xr hn hi;cases h1:x.oJ with
  |some l =>
   have:=AV.AP h1;subst this;obtain⟨hs,h⟩:=eY h;have hu:=LU hs;simp[CI]at h;cases hx with
   |s bs =>
    rw[<-U2]at h;cases hd:bs.data.toList.drop k with
    |nil=>grind
    |cons c rest =>
     rw[hd]at h;simp at h;subst h;have hk:k<bs.data.toList.length:=by grind[List.drop_eq_nil_of_le]
     rw[List.drop_eq_getElem_cons hk]at hd;injection hd with hd1 hd2
     refine⟨.int .u8 (Q0 c.toNat),?_,.i _ _⟩;have hk':k<bs.size:=by simpa using hk
     have hget:bs[k]? = some c:=by rw[getElem?_pos bs k hk'];congr 1
     simp_all[X4,asIntOf,bQ]
  |none =>
   rw[h1]at h;cases hx<;>first|cases h|skip
   simp[partAt]at h;split at h
   ·rename_i n e hu;obtain⟨hb,h'⟩:=eY h;have hie:bp P e=true:=by
     grind[part,eY]
    obtain⟨z,hz1,hz2⟩:=He (w:=w) h' (by omega);simp_all[X4,asIntOf,bQ,gU]
   grind
theorem tg{y:Nat}{k:IntKind}{code:BoundsCode}(h:n<=y):(U3 (.int k (Q0 n)) y code).run P w=.ok n w:=by grind[U3,asIntOf,Q8]
inductive mF (E:Env):Option AV->Option Value->Prop
 |none:mF E none none
 |some (v:AV) (u:Value) (h:Conc E v u):mF E (some v) (some u)
theorem oP{x:Option Value}(hb:gy len cap lo hi mx=some (a,b,m))(h1:mF E lo l)(h2:mF E hi h)(h3:mF E mx x)(isS:Bool):
  a<=b/\b<=m/\m<=cap/\(J4 isS len cap l h x).run P w=.ok (a,b,m) w:=by
 unfold gy at hb;cases e1:bM 0 lo with
 |none=>grind
 |some a' =>
  cases e2:bM len hi with
  |none=>grind
  |some b' =>
   cases e3:bM cap mx with
   |none=>grind
   |some m' =>
    rw[e1,e2,e3]at hb;obtain⟨hc,hb'⟩:=fo hb;cases hb';simp only[Z6]at hc;obtain⟨⟨⟨c1,c2⟩,c3⟩,c4⟩:=hc;have c1:=Q6 c1;have c2:=Q6 c2;have c3:=Q6 c3;refine⟨c1,c2,c3,?_⟩;cases h1 with
    |none =>
     simp[bM]at e1;subst e1;cases h2 with
     |none =>
      cases h3 with
      |none =>simp_all[bM,J4]
      |some v u hv=>grind
     |some v u hv =>
      obtain⟨k,rfl⟩:=xr e2 hv;cases h3 with
      |none =>grind[bM,J4,Q3,tg,Q4,Q8]
      |some v' u' hv' =>obtain⟨k',rfl⟩:=xr e3 hv';simp only[J4,pure_bind,Q3,tg c2,tg c3,Q4,Q8]
    |some v0 u0 hv0 =>
     obtain⟨k0,rfl⟩:=xr e1 hv0;cases h2 with
     |none =>
      cases h3 with
      |none =>grind[bM,J4,Q3,tg,Q4,Q8]
      |some v u hv=>grind
     |some v u hv =>
      obtain⟨k,rfl⟩:=xr e2 hv;cases h3 with
      |none =>simp[bM]at e3;subst e3;simp only[J4,pure_bind,Q3,tg c2,tg c1,Q4,Q8]
      |some v' u' hv' =>obtain⟨k',rfl⟩:=xr e3 hv';simp only[J4,Q3,tg c2,tg c3,tg c1,Q4,Q8]
def nT(mx:Option AV)(c m:Nat):Nat:=match mx with|none=>c|some _=>m
theorem abz{c0:Nat}(hb:gy n c0 lo hi mx=some (a,b,m))(hc:c0<=c):gy n c lo hi mx=some (a,b,nT mx c m):=by
 unfold gy at hb|-;cases e1:bM 0 lo with
 |none=>grind
 |some a' =>
  cases e2:bM n hi with
  |none=>grind
  |some b' =>
   cases mx with
   |none =>rw[e1,e2]at hb;simp only[bM]at hb|-;obtain⟨h1,h2⟩:=fo hb;cases h2;simp only[Z6]at h1;have h3:=Q6 h1.1.1.1;have h4:=Q6 h1.1.1.2;have e3:J5 a c=true/\J5 b c=true:=⟨J6 (by omega),J6 (by omega)⟩;simp_all[J6,nT]
   |some v =>grind[bM,fo,Q6,J6,nT]
theorem HW(hb:gy n n lo hi mx=some (a,b,m))(hc:n<=c):gy n c lo hi mx=some (a,b,nT mx c m):=by
 unfold gy at hb|-;cases e1:bM 0 lo with
 |none=>grind
 |some a' =>
  cases e2:bM n hi with
  |none=>grind
  |some b' =>
   cases mx with
   |none =>rw[e1,e2]at hb;simp only[bM]at hb|-;obtain⟨hk,hb'⟩:=fo hb;cases hb';simp only[Z6]at hk;obtain⟨⟨⟨k1,k2⟩,k3⟩,-⟩:=hk;have k2:=Q6 k2;have q1:J5 b c=true:=J6 (by omega);simp_all[J6,nT]
   |some v0 =>grind[bM,fo,Q6,J6,nT]
theorem Bw{t:Nat}(h:pY P t z=true):∃ e,P.underlying t=some (.slice e)/\bp P e=true/\aD P e=z:=by grind[pY,bu,qi]
theorem extract_toList(s:ByteArray)(a b:Nat):(s.extract a b).data.toList=(s.data.toList.drop a).take (b-a):=by simp_all
theorem ti{t e:Nat}{a0:Addr}(hu:P.underlying t=some (.slice e))(hie:bp P e=true)
  (hr:(J4 true len cap l h y).run P w=.ok (a,b,m) w):
  (J8 t (.slice (some a0) len cap) l h y).run P w=.ok (.slice (some (if m=a then a0 else a0.add (a*aD P e))) (b-a) (m-a)) w:=by
 simp[J8,X5,bQ hu,hr,gU hie];grind
theorem XM(hs:slice P t x lo hi mx=some v)(hx:Conc E x u)(h1:mF E lo l)(h2:mF E hi h)(h3:mF E mx y):
  ∃ z,(J8 t u l h y).run P w=.ok z w/\Conc E v z:=by
 cases hx<;>first|(simp only[slice]at hs;cases hs;done)|skip
 ·rename_i bs;simp only[slice]at hs;cases h3 with
  |some _ _ _=>grind
  |none =>
   cases hb:gy (bs.data.toList.map UInt8.toNat).length (bs.data.toList.map UInt8.toNat).length lo hi none with
   |none=>grind
   |some abm =>
    obtain⟨a,b,m⟩:=abm;rw[hb]at hs;obtain⟨ht,hs'⟩:=fo hs;subst hs';have hu:=LU ht;have hlen:(bs.data.toList.map UInt8.toNat).length=bs.size:=by simp
    rw[hlen]at hb;obtain⟨c1,c2,c3,hr⟩:=oP (P:=P) (w:=w) hb h1 h2 .none false;refine⟨.string (bs.extract a b),?_,?_⟩
    ·simp_all[J8,X5,bQ]
    ·rw[<-U2,<-U4,<-extract_toList];exact .s _
 ·rename_i r o B hB;simp[slice]at hs;cases ha:vD P t with
  |none=>grind
  |some nz =>
   obtain⟨n,z⟩:=nz;rw[ha]at hs;simp only at hs;cases hb:gy n n lo hi mx with
   |none=>grind
   |some abm =>
    obtain⟨a,b,m⟩:=abm;rw[hb]at hs;cases hs;obtain⟨e,hu,hie,rfl⟩:=Jr ha;obtain⟨c1,c2,c3,hr⟩:=oP (P:=P) (w:=w) hb h1 h2 h3 false;refine⟨.slice (some (if m=a then⟨B.b,o+B.d,none⟩ else Addr.add ⟨B.b,o+B.d,none⟩ (a*aD P e))) (b-a) (m-a),?_,?_⟩
    ·simp_all[J8,bQ,V2,gU]
    ·refine .slk r _ _ _ _ _ (by omega) ?_;grind[jA]
 ·rename_i r o n z c a0 hle hh;simp[slice]at hs;cases hb:gy n c lo hi mx with
  |none=>grind
  |some abm =>obtain⟨a,b,m⟩:=abm;rw[hb]at hs;obtain⟨ht,hs'⟩:=fo hs;subst hs';obtain⟨e,hu,hie,rfl⟩:=Bw ht;obtain⟨c1,c2,c3,hr⟩:=oP hb h1 h2 h3 true;refine⟨_,ti hu hie hr,.slk r _ _ _ _ _ (by omega) ?_⟩;grind[jA]
 ·rename_i r o n z c a0 hle hh;simp[slice]at hs;cases hb:gy n n lo hi mx with
  |none=>grind
  |some abm =>
   obtain⟨a,b,m⟩:=abm;rw[hb]at hs;obtain⟨ht,hs'⟩:=fo hs;obtain⟨e,hu,hie,rfl⟩:=Bw ht;have hb':=HW hb hle;cases h3 with
   |none =>
    simp at hs';subst hs';obtain⟨c1,c2,c3,hr⟩:=oP hb' h1 h2 .none true;simp[nT]at c1 c2 c3 hr;refine⟨_,ti hu hie hr,.slu r _ _ _ _ _ (by omega) ?_⟩;obtain⟨B,hB,hcc,hroom⟩:=hh;refine⟨B,hB,?_,?_⟩
    ·grind[jA]
    ·have e3:(c-a)*aD P e=c*aD P e-a*aD P e:=U5 c a _;have e4:a*aD P e<=c*aD P e:=V3 _ (by omega);omega
   |some v0 u0 hv0 =>simp at hs';subst hs';obtain⟨c1,c2,c3,hr⟩:=oP hb' h1 h2 (.some v0 u0 hv0) true;simp[nT]at c1 c2 c3 hr;refine⟨_,ti hu hie hr,.slk r _ _ _ _ _ (by omega) ?_⟩;grind[jA]
 ·simp[slice]at hs;cases he:ez P t with
  |none=>grind
  |some e =>
   rw[he]at hs;cases hb:gy 0 0 lo hi mx with
   |none=>grind
   |some abm =>
    obtain⟨a,b,m⟩:=abm;rw[hb]at hs;obtain⟨hie,hs'⟩:=fo hs;subst hs';have hu:=qi he;obtain⟨c1,c2,c3,hr⟩:=oP (P:=P) (w:=w) hb h1 h2 h3 true;have ea:a=0:=by omega
    have eb:b=0:=by omega
    have em:m=0:=by omega
    subst ea;subst eb;subst em;refine⟨.slice none 0 0,?_,.sn⟩;simp only[J8,X5,Q3,bQ hu,Q4,hr,gU hie,Q8];simp
 ·rename_i c n z kk b0 o0 vs hle hv hc;simp[slice]at hs;cases hb:gy n n lo hi mx with
  |none=>rw[hb]at hs;cases hs
  |some abm =>
   obtain⟨a,b,m⟩:=abm;rw[hb]at hs;obtain⟨ht,hs'⟩:=eY hs;obtain⟨e,hu,hie,rfl⟩:=Bw ht;have hb':=HW hb hle;cases h3 with
   |none =>
    simp at hs';subst hs';obtain⟨c1,c2,c3,hr⟩:=oP hb' h1 h2 .none true;simp[nT]at c1 c2 c3 hr;refine⟨_,ti hu hie hr,?_⟩;by_cases hm:kk=a
    ·have e1:b-a=0:=by omega
     have e2:kk-a=0:=by omega
     rw[e1,e2];exact .rs0 _ _ _ _
    ·rw[if_neg hm,jA];refine .rs _ _ _ _ b0 (o0+a*aD P e) (vs.drop (a*aD P e)) (by omega) (fun j v hj=>?_) (hc.drop _);rw[List.getElem?_drop]at hj;rw[show o0+a*aD P e+j=o0+(a*aD P e+j) by omega];exact hv _ v hj
   |some v0 u0 hv0 =>
    simp at hs';obtain⟨hma,hs''⟩:=fo hs';rw[bu,decide_eq_true_eq]at hma;subst hs'';subst hma;obtain⟨c1,c2,c3,hr⟩:=oP hb' h1 h2 (.some v0 u0 hv0) true;simp[nT]at c1 c2 c3 hr;refine⟨_,ti hu hie hr,?_⟩;have e1:b-m=0:=by omega
    rw[e1,U6];exact .slk 0 0 0 _ 0 _ (Q9 _) (.inl rfl)
 ·rename_i c z a0 kk;simp[slice]at hs;cases hb:gy 0 0 lo hi mx with
  |none=>rw[hb]at hs;cases hs
  |some abm =>
   obtain⟨a,b,m⟩:=abm;rw[hb]at hs;obtain⟨ht,hs'⟩:=eY hs;obtain⟨e,hu,hie,rfl⟩:=Bw ht;have hb':=HW hb (Nat.zero_le kk);cases h3 with
   |none =>
    simp at hs';subst hs';obtain⟨c1,c2,c3,hr⟩:=oP hb' h1 h2 .none true;simp[nT]at c1 c2 c3 hr;refine⟨_,ti hu hie hr,?_⟩;have e1:b-a=0:=by obtain⟨c4,c5,c6,-⟩:=oP (P:=P) (w:=w) hb h1 h2 .none true;omega
    rw[e1];exact .rs0 _ _ _ _
   |some v0 u0 hv0 =>
    simp at hs';obtain⟨hma,hs''⟩:=fo hs';rw[bu,decide_eq_true_eq]at hma;subst hs'';subst hma;obtain⟨c1,c2,c3,hr⟩:=oP hb' h1 h2 (.some v0 u0 hv0) true;simp[nT]at c1 c2 c3 hr;refine⟨_,ti hu hie hr,?_⟩;have e1:b-m=0:=by omega
    rw[e1,U6];exact .slk 0 0 0 _ 0 _ (Q9 _) (.inl rfl)
theorem JH(h:Rel E w.heap st){a:Addr}(hx:Conc E (.sl r o n z none) (.slice (some a) n c)):qR st r o z<=c:=by
 cases hx with
 |slu _ _ _ _ _ _ hle hh =>
  obtain⟨B,hB,-,hroom⟩:=hh;unfold qR;cases hce:st.ce r with
  |none=>grind
  |some lga =>
   obtain⟨l,g,al⟩:=lga;obtain⟨B',cs,t,fz,hB',hH,hfz,hn,hdl,hC⟩:=h.cells hce;rcases Nat.eq_zero_or_pos z with rfl|hz
   ·simp
   ·have h1:=Nat.div_mul_le_self (l.length-o) z;have h2:(l.length-o) / z*z<=c*z:=by
     grind
    exact Nat.le_of_mul_le_mul_right h2 hz
theorem XW(h:Rel E w.heap st)(hs:Ce P st t lo hi mx x=some v)(hx:Conc E x u)(h1:mF E lo l)(h2:mF E hi hv)(h3:mF E mx y):
  ∃ z,(J8 t u l hv y).run P w=.ok z w/\Conc E v z:=by
 unfold Ce at hs;split at hs
 ·rename_i r o n z;cases hx with
  |slu _ _ _ _ c a0 hle hh =>
   have hrs:=JH h (.slu r o n z c a0 hle hh);unfold qR at hrs;cases hce:st.ce r with
   |none=>grind
   |some lga =>
   obtain⟨l0,g0,al0⟩:=lga;rw[hce]at hs hrs;simp only at hs hrs;cases hb:gy n ((l0.length-o) / z) lo hi mx with
   |none=>grind
   |some abm =>
    obtain⟨a,b,m⟩:=abm;rw[hb]at hs;obtain⟨ht,hs'⟩:=fo hs;obtain⟨e,hu,hie,rfl⟩:=Bw ht;have hb':=abz hb hrs;cases h3 with
    |none =>
     subst hs';obtain⟨c1,c2,c3,hr⟩:=oP hb' h1 h2 .none true;simp[nT]at c1 c2 c3 hr;refine⟨_,ti hu hie hr,.slu r _ _ _ _ _ (by omega) ?_⟩;obtain⟨B,hB,hcc,hroom⟩:=hh;refine⟨B,hB,?_,?_⟩
     ·grind[jA]
     ·have e3:(c-a)*aD P e=c*aD P e-a*aD P e:=U5 c a _;have e4:a*aD P e<=c*aD P e:=V3 _ (by omega);omega
    |some v0 u0 hv0 =>subst hs';obtain⟨c1,c2,c3,hr⟩:=oP hb' h1 h2 (.some v0 u0 hv0) true;simp[nT]at c1 c2 c3 hr;refine⟨_,ti hu hie hr,.slk r _ _ _ _ _ (by omega) ?_⟩;grind[jA]
 grind
theorem Oe(h:Rel E w.heap st)(hs:ia P st t x lo hi mx=some v)(hx:Conc E x u)(h1:mF E lo l)(h2:mF E hi hv)(h3:mF E mx y):
  ∃ z,(J8 t u l hv y).run P w=.ok z w/\Conc E v z:=by
 unfold ia at hs;split at hs
 ·rename_i v' hv';cases hs;exact XM hv' hx h1 h2 h3
 ·exact XW h hs hx h1 h2 h3
theorem EF(a:Addr):(loadCells a 0).run P w=.ok #[] w:=rfl
theorem Cm(h:Rel E w.heap st){l:List AV}(hf:firstCells st z n x=some l)(hx:Conc E x u)(hm:lenOf x=some m)(hn:n<=m):
  ∃ us:List Value,(Q2 z n u).run P w=.ok us.toArray w/\aP E l us:=by
 cases hx<;>first|(cases hf)|skip
 ·rename_i bs;obtain⟨-,hf⟩:=fo hf;subst hf;refine⟨((bs.extract 0 n).data.toList.map fun b=>.int .u8 b.toNat),?_,?_⟩
  ·simp[Q2];grind
  ·have:((bs.extract 0 n).data.toList)=bs.data.toList.take n:=by simp_all
   rw[this,<-U4];generalize bs.data.toList.take n=l;induction l with
   |nil=>exact .nil
   |cons b l ih=>exact .cons _ _ _ _ (.i _ _) ih
 ·rename_i r o k z' c a hle hh;simp[firstCells]at hf;by_cases h0:n=0
  ·subst h0;cases hf;exact⟨[],by simp[Q2,EF],.nil⟩
  ·rw[bu,decide_eq_false h0]at hf;cases hm;rcases hh with rfl|⟨B,hB,rfl⟩
   ·omega
   ·obtain⟨us,h1,h2,-⟩:=Co h hf hB;exact⟨us,h1,h2⟩
 ·rename_i r o k z' c a hle hh;simp[firstCells]at hf;by_cases h0:n=0
  ·subst h0;cases hf;exact⟨[],by simp[Q2,EF],.nil⟩
  ·rw[bu,decide_eq_false h0]at hf;cases hm;obtain⟨B,hB,hcc,-⟩:=hh;rcases hcc with rfl|rfl
   ·omega
   ·obtain⟨us,h1,h2,-⟩:=Co h hf hB;exact⟨us,h1,h2⟩
 ·simp[firstCells]at hf;by_cases h0:n=0
  ·subst h0;cases hf;exact⟨[],by simp[Q2],.nil⟩
  simp_all[bu]
 ·rename_i c k z' kk b o vs hle hv hc;obtain⟨rfl,hk⟩:=sq hf;have hlen:=hc.length;refine⟨vs.take (n*z),?_,by simpa using hc.take (n*z)⟩;grind[Q2,NX]
 ·cases hm;have h0:n=0:=by omega
  subst h0;have hl:=om hf;rw[X6]at hl;have:=U7 hl;subst this;exact⟨[],by simp[Q2,EF],.nil⟩
theorem XC(h:lenOf x=some n)(hx:Conc E x u):(Z7 u).run P w=.ok n w:=by
 cases hx<;>first|(cases h;done)|skip
 ·cases h;simp_all[Z7]
 all_goals (cases h;rfl)
theorem Rb{x:TypeId}{r:List TypeId}(h:pJ P (t::x::r)=true):∃ d,P.underlying x=some d/\∀ k,d≠.int k:=by grind[pJ]
theorem OH{x:TypeId}{r:List TypeId}{d:TypeDesc}{as:Array Value}(hu:P.underlying t=some (.slice e))(hd:P.underlying x=some d)(hdf:∀ k,d≠.int k):
  (Q1 (t::x::r).toArray ty as).run P w=(Q1 [t].toArray ty as).run P w:=by
 unfold Q1;simp only[List.getElem?_toArray,List.getElem?_cons_zero,List.getElem?_cons_succ,List.getElem?_nil];cases as[0]? with
 |none=>rfl
 |some s =>
  cases as[1]? with
  |none=>rfl
  |some y =>
   simp only[Q3,bQ hu,Q4];cases s<;>try rfl
   simp only[Q3];simp only[bQ hd,Q4,Q8]
theorem u7{t e:Nat}(ht:ts.head? = some t)(hu:P.underlying t=some (.slice e))(hi:bp P e=true)(hz:aD P e=z)
  (hp:pJ P ts=true) (hl:∀ w,(Z7 ux).run P w=.ok n w) (hroom:sLen+n<=sCap) (hf:(Q2 z n ux).run P w=.ok us.toArray w)
  (hs:∀ a,base=some a->(storeCells (a.add (sLen*z)) us).run P w=.ok () w') (hn:base=none->w'=w) (ty:TypeId):
  (Q1 ts.toArray ty #[.slice base sLen sCap,ux]).run P w=.ok (.slice base (sLen+n) sCap) w':=by
 obtain⟨ts',rfl⟩:∃ r,ts=t::r:=by cases ts with|nil=>grind|cons a r=>grind
 have fin:(match base with
   |some a=>(do storeCells (a.add (sLen*z)) us;pure (U8 base (sLen+n) sCap):Sem Value)
   |none=>pure (U8 base (sLen+n) sCap)).run P w=.ok (.slice base (sLen+n) sCap) w':=by
  cases base with
  |none=>simp_all
  |some a=>simp_all
 cases ts' with
 |nil =>
  simp[Q1,bQ hu,gU hi,hz,hl,hroom,hf];cases base with
  |none=>grind
  |some a=>simp_all
 |cons x r =>
  obtain⟨d,hd,hdf⟩:=Rb hp;have key:(Q1 (t::x::r).toArray ty #[.slice base sLen sCap,ux]).run P w=(Q1 [t].toArray ty #[.slice base sLen sCap,ux]).run P w:=OH hu hd hdf;rw[key];simp[Q1,bQ hu,gU hi,hz,hl,hroom,hf];cases base with
  |none=>grind
  |some a=>simp_all
theorem MV(w:World)(o:Obj):(w.drew.alloc o).heap[w.heap.size]? = some o:=by
 show(w.heap.push o)[w.heap.size]? = some o
 simp
theorem XF{t e:Nat}{zero:Value}{os:List Value}(ht:ts.head? = some t)(hu:P.underlying t=some (.slice e))(hi:bp P e=true)(hz:aD P e=z)
  (hp:pJ P ts=true) (hl:∀ w,(Z7 ux).run P w=.ok n w) (hroom:¬ sLen+n<=sCap) (hf:(Q2 z n ux).run P w.drew=.ok us.toArray w.drew)
  (ho:(Q2 z sLen (.slice base sLen sCap)).run P w.drew=.ok os.toArray w.drew) (hb:1<=nR P e) (hbig:(2*(sLen+n)+2000)*nR P e<=281474976710656)
  (hzero:∀ w,(zeroValue e).run P w=.ok zero w) (ty:TypeId):
  ∃ newCap,sLen+n<=newCap/\(Q1 ts.toArray ty #[.slice base sLen sCap,ux]).run P w=.ok (.slice (some ⟨w.heap.size,0,none⟩) (sLen+n) newCap)
   (w.drew.alloc (.cells (os.toArray++(us.toArray++J9 zero.cells (newCap-(sLen+n)))) e)):=by
 obtain⟨ts',rfl⟩:∃ r,ts=t::r:=by cases ts with|nil=>grind|cons a r=>grind
 obtain⟨i,dd,hinf,hdd⟩:=CH hi;have hby:nR P e=i.bytes:=by simp[nR,hinf]
 rw[hby]at hb hbig;have hgrow:∀ (k c:Nat),c<sLen+n+0->Z8 (sLen+n) k c<=2*(sLen+n)+1000:=by
  intro k;induction k with
  |zero=>grind[Z8]
  |succ k ih =>
   intro c hc;simp[Z8];rw[if_neg (by omega)];by_cases h2:c+(c+768) / 4<sLen+n+0
   ·grind
   ·cases k with
    |zero=>simp[Z8];omega
    |succ k=>grind[Z8]
 have hcap:Z4 (sLen+n) sCap<=2*(sLen+n)+1000:=by grind[Z4]
 have hbytes:¬ Z4 (sLen+n) sCap*i.bytes > 2 ^ 48:=by have:Z4 (sLen+n) sCap*i.bytes<=(2*(sLen+n)+2000)*i.bytes:=V3 _ (by omega);omega
 have hq:(U9 (sLen+n) sCap e).forced=false:=rfl;have hb0:¬ i.bytes=0:=by omega
 refine⟨sLen+n+w.tape w.drawn (.appendCap (sLen+n) sCap e) % (2 ^ 63-(sLen+n)),by omega,?_⟩;cases ts' with
 |nil =>simp[Q1,bQ hu,gU hi,hz,hl,hroom,hf,ho,wP hinf,hbytes,hq,V4,hzero,newRow,hb0]
 |cons x r =>obtain⟨d,hd,hdf⟩:=Rb hp;rw[OH hu hd hdf];simp[Q1,bQ hu,gU hi,hz,hl,hroom,hf,ho,wP hinf,hbytes,hq,V4,hzero,newRow,hb0]
theorem JW{e:Nat}(h:fits P e need=true):∃ z,(∀ w,(zeroValue e).run P w=.ok z w)/\z.cells.size=aD P e/\1<=nR P e/\(2*need+2000)*nR P e<=281474976710656:=by
 unfold fits at h;simp only[Z6]at h;obtain⟨⟨h1,h2⟩,h3⟩:=h;cases hz:bm P e with
 |none=>grind
 |some l =>obtain⟨z,g1,g2,g3,g4⟩:=rG (E:=⟨fun _=>none,fun _=>none,0⟩) hz;refine⟨z,g1,?_,Q6 h2,Q6 h3⟩;have:=g2.length;grind
theorem KU(z:Array Value)(n:Nat):(J9 z n).size=n*z.size:=by simp[J9]
theorem H1(h:Rel E w.heap st)(hn:st.next<E.top){newCap:Nat}{cs:List AV}{zc:Array Value}(e:TypeId)(hc:aP E cs us)(hl:us.length=need*z)(hz:zc.size=(newCap-need)*z)(hle:need<=newCap):
  ∃ E',Step E E' w.heap (w.drew.alloc (.cells (us.toArray++zc) e)).heap st (st.aw cs)/\Conc E' (.sl st.next 0 need z none) (.slice (some ⟨w.heap.size,0,none⟩) need newCap)/\sZ E' (w.drew.alloc (.cells (us.toArray++zc) e)).heap e st.next true:=by
 have hcl:=hc.length;have hs:=Step.aw h hn cs (us++zc.toList) e (0,0) (.inl rfl) (by grind) (by grind);have e1:(us++zc.toList).toArray=us.toArray++zc:=by grind
 rw[e1]at hs;refine⟨_,hs,.slu _ _ _ _ _ _ hle ⟨_,Env.fj,.inr (by simp),?_⟩,⟨_,Env.fj,fun _=>rfl,us.toArray++zc,(0,0),MV w _⟩⟩;simp[hl,hz];have:need*z+(newCap-need)*z=newCap*z:=by rw[<-Z9];grind
 omega
def Jo(E:Env)(H:Array Obj)(e:Nat):AV->Prop
 |.sn=>True
 |.sl r o _ _ _=>o=0/\sZ E H e r true
 |_=>False
def Da(E:Env)(H:Array Obj)(e:Nat):AV->Prop
 |.sl r _ _ _ _=>sZ E H e r true
 |_=>True
theorem Wy(h:Rel E w.heap st){us:Value}(ha:append P st ts s x=some (v,st'))(hs:Conc E s us)(hx:Conc E x ux)(hn:st'.next<=E.top)(ty:TypeId):
  ∃ E' w' cv,(Q1 ts.toArray ty #[us,ux]).run P w=.ok cv w'/\bt E E' w w' st st'/\Conc E' v cv/\(∀ t r e,ts=t::r->ez P t=some e->Jo E w.heap e s->Da E' w'.heap e v):=by
 unfold append at ha;split at ha
 ·grind
 ·rename_i t r;cases he:ez P t with
  |none=>grind
  |some e =>
   cases hl:lenOf x with
   |none=>grind
   |some n =>
    rw[he,hl]at ha;simp only at ha;cases hf:firstCells st (aD P e) n x with
    |none=>grind
    |some new =>
     rw[hf]at ha;simp only at ha;obtain⟨hb,ha⟩:=eY ha;simp at hb;obtain⟨⟨hp,hi⟩,hsc⟩:=hb;have hu:=qi he;have hlen:∀ w:World,(Z7 ux).run P w=.ok n w:=fun w=>XC hl hx
     obtain⟨nu,hnu,hnc⟩:=Cm h hf hx hl (Q9 _);obtain⟨nu',hnu',hnc'⟩:=Cm (w:=w.drew) h hf hx hl (Q9 _);have hn0:n=0->nu=[]:=by
      rintro rfl;have hq:=hnc.length;cases hx<;>first|(simp[firstCells]at hf;cases hf;done)|skip
      all_goals first
       |(simp[firstCells]at hf;obtain⟨-,hf⟩:=fo hf;grind)
       |(simp[firstCells]at hf;subst hf;grind)
       |grind[firstCells,om]
     have hone:=BW hnc hsc;have tyk:∀ {E':Env} {H':Array Obj} {s v:AV},(Jo E w.heap e s->Da E' H' e v)->∀ t' r' e',t::r=t'::r'->ez P t'=some e'->Jo E w.heap e' s->Da E' H' e' v:=by grind
     have anew:∀ (base:Option Addr) (sLen sCap:Nat) (old:List AV) (os:List Value),¬ sLen+n<=sCap->fits P e (sLen+n)=true->
       (Q2 (aD P e) sLen (.slice base sLen sCap)).run P w.drew=.ok os.toArray w.drew->aP E old os->os.length=sLen*aD P e->nu'.length=n*aD P e->
       ∃ newCap zc,sLen+n<=newCap/\zc.size=(newCap-(sLen+n))*aD P e/\(Q1 (t::r).toArray ty #[.slice base sLen sCap,ux]).run P w =
        .ok (.slice (some ⟨w.heap.size,0,none⟩) (sLen+n) newCap) (w.drew.alloc (.cells ((os++nu').toArray++zc) e)):=by
      intro base sLen sCap old os hroom hfit ho hco hol hnl;obtain⟨z,g1,g2,g3,g4⟩:=JW hfit;obtain⟨newCap,k1,k2⟩:=XF rfl hu hi rfl hp hlen hroom hnu' ho g3 g4 g1 ty;grind[KU]
     have nlen:n≠0->nu'.length=n*aD P e:=by
      intro h0;have hq:=hnc'.length;cases hx<;>first|(simp only[firstCells]at hf;cases hf;done)|skip
      ·simp[firstCells,bu]at hf;obtain⟨hz1,hf⟩:=fo hf;rw[decide_eq_true_eq]at hz1;subst hf;cases hl;rw[<-hq,hz1];simp
      ·simp[firstCells,bu,decide_eq_false h0]at hf;unfold rd at hf;split at hf
       ·rw[om hf]at hq;exact hq.symm
       ·cases hf
      ·simp[firstCells,bu,decide_eq_false h0]at hf;unfold rd at hf;split at hf
       ·rw[om hf]at hq;exact hq.symm
       ·cases hf
      ·simp only[firstCells,bu,decide_eq_false h0]at hf;cases hf
      ·simp[firstCells]at hf;rw[om hf]at hq;exact hq.symm
      ·simp[firstCells]at hf;rw[om hf]at hq;exact hq.symm
     cases hs with
     |sn =>
      simp only at ha;by_cases h0:n=0
      ·rw[bu,decide_eq_true h0]at ha;cases ha;have hr:=u7 (base:=none) (sLen:=0) (sCap:=0) rfl hu hi rfl hp hlen (by omega) hnu (fun a e=>by cases e) (fun _=>rfl) ty;rw[h0]at hr;exact⟨E,w,_,hr,.refl h,.sn,tyk fun _=>trivial⟩
      ·rw[bu,decide_eq_false h0]at ha;simp only at ha;obtain⟨hfit,ha⟩:=fo ha;cases ha;obtain⟨newCap,zc,k1,k2,k3⟩:=anew none 0 0 [] [] (by omega) (by simpa using hfit) (by simp[Q2]) .nil (by simp) (nlen h0);obtain⟨E',q1,q2,q3⟩:=H1 h (show st.next+1<=E.top from hn) e (aP.append .nil hnc') (by simpa using nlen h0) k2 k1;exact⟨E',_,_,k3,⟨by simpa using q1,rfl,rfl⟩,by simpa[grow]using q2,tyk fun _=>by simpa[grow,Da]using q3⟩
     |rs c len z k b o vs hle hv hc =>simp only at ha;obtain⟨h0,ha⟩:=fo ha;rw[bu,decide_eq_true_eq]at h0;cases ha;have hr:=u7 (w:=w) (w':=w) (ts:=t::r) (base:=some ⟨b,o,none⟩) (sLen:=len) (sCap:=k) (us:=nu) rfl hu hi rfl hp hlen (by omega) hnu (fun a e=>by rw[hn0 h0];rfl) (fun _=>rfl) ty;rw[h0,X7]at hr;exact⟨E,w,_,hr,.refl h,.rs c len z k b o vs hle hv hc,tyk fun _=>trivial⟩
     |rs0 c z a0 k0 =>simp only at ha;obtain⟨h0,ha⟩:=fo ha;rw[bu,decide_eq_true_eq]at h0;cases ha;have hr:=u7 (w:=w) (w':=w) (ts:=t::r) (base:=some a0) (sLen:=0) (sCap:=k0) (us:=nu) rfl hu hi rfl hp hlen (by omega) hnu (fun a e=>by rw[hn0 h0];rfl) (fun _=>rfl) ty;rw[h0]at hr;exact⟨E,w,_,hr,.refl h,.rs0 c z a0 k0,tyk fun _=>trivial⟩
     |slk r0 o len z c a0 hle hh =>
      simp only at ha;obtain⟨hzz,ha⟩:=eY ha;rw[bu,decide_eq_true_eq]at hzz;subst hzz;by_cases h0:n=0
      ·rw[bu,decide_eq_true h0]at ha;cases ha;have hr:=u7 (w:=w) (w':=w) (ts:=t::r) (base:=some a0) (sLen:=len) (sCap:=c) (us:=nu) rfl hu hi rfl hp hlen (by omega) hnu (fun a e=>by rw[hn0 h0];rfl) (fun _=>rfl) ty;rw[h0,X7]at hr;exact⟨E,w,_,hr,.refl h,.slk _ _ _ _ _ _ hle hh,tyk fun ht=>ht.2⟩
      ·rw[bu,decide_eq_false h0]at ha;simp only at ha;cases hroom:J5 (len+n) c with
       |true =>
        rw[hroom]at ha;simp only at ha;have hroom:=Q6 hroom;cases hw:wt st r0 (o+len*aD P e) new with
        |none=>rw[hw]at ha;cases ha
        |some st1 =>
         rw[hw]at ha;cases ha;obtain⟨B,cs,tt,fz,g1,g2,g3,g4,g5,g6⟩:=Step.wt h hw hnc;rcases hh with rfl|⟨B',hB',rfl⟩
         ·omega
         ·rw[g1]at hB';cases hB';have hrun:=yv P B.b (o+len*aD P e+B.d) tt fz nu 0 cs w g2 g3.not (by omega) g5;have hr:=u7 (w:=w) (ts:=t::r) (base:=some ⟨B.b,o+B.d,none⟩) (sLen:=len) (sCap:=c) (us:=nu) rfl hu hi rfl hp hlen hroom hnu
           (fun a ea=>by cases ea;rw[jA,show o+B.d+len*aD P e=o+len*aD P e+B.d by omega];exact hrun) (fun e=>by cases e) ty
          exact⟨E,_,_,hr,.of (by simpa using g6),.slk _ _ _ _ _ _ hroom (.inr ⟨B,g1,rfl⟩),tyk fun ht=>ht.2.mono (.refl E) (fI.set g2)⟩
       |false =>
        rw[hroom]at ha;simp only at ha;have hroom:¬ len+n<=c:=by intro hc;rw[J6 hc]at hroom;cases hroom
        obtain⟨hfit,ha⟩:=eY ha;cases hfo:firstCells st (aD P e) len (.sl r0 o len (aD P e) (some c)) with
        |none=>rw[hfo]at ha;cases ha
        |some old =>
         rw[hfo]at ha;cases ha;obtain⟨os,q1,q2⟩:=Cm (P:=P) (w:=w.drew) h hfo (.slk r0 o len _ c a0 hle hh) rfl (Q9 _);have hol:os.length=len*aD P e:=by
          have hq:=q2.length;simp[firstCells,bu]at hfo;by_cases hl0:len=0
          ·rw[decide_eq_true hl0]at hfo;cases hfo;rw[hl0,X6];exact hq.symm
          ·rw[decide_eq_false hl0]at hfo;simp[rd]at hfo;split at hfo
           ·rw[om hfo]at hq;exact hq.symm
           ·cases hfo
         obtain⟨newCap,zc,k1,k2,k3⟩:=anew (some a0) len c old os hroom hfit q1 q2 hol (nlen h0);obtain⟨E',p1,p2,p3⟩:=H1 (w:=w) h (show st.next+1<=E.top from hn) (z:=aD P e) (need:=len+n) (newCap:=newCap) e (aP.append q2 hnc') (by rw[List.length_append,hol,nlen h0,Z9]) k2 k1;exact⟨E',_,_,k3,⟨p1,rfl,rfl⟩,p2,tyk fun _=>p3⟩
     |slu r0 o len z c a0 hle hh =>
      simp only at ha;obtain⟨hzz,ha⟩:=eY ha;rw[bu,decide_eq_true_eq]at hzz;subst hzz;by_cases h0:n=0
      ·rw[bu,decide_eq_true h0]at ha;cases ha;have hr:=u7 (w:=w) (w':=w) (ts:=t::r) (base:=some a0) (sLen:=len) (sCap:=c) (us:=nu) rfl hu hi rfl hp hlen (by omega) hnu (fun a e=>by rw[hn0 h0];rfl) (fun _=>rfl) ty;rw[h0,X7]at hr;exact⟨E,w,_,hr,.refl h,.slu _ _ _ _ _ _ hle hh,tyk fun ht=>ht.2⟩
      ·rw[bu,decide_eq_false h0]at ha;simp only at ha;unfold Ej at ha;cases hrm:J5 (len+n) (qR st r0 o (aD P e)) with
       |true =>
        rw[hrm]at ha;simp only at ha;have hroom:len+n<=c:=Nat.le_trans (Q6 hrm) (JH (w:=w) h (.slu r0 o len _ c a0 hle hh));cases hw:wt st r0 (o+len*aD P e) new with
        |none=>rw[hw]at ha;cases ha
        |some st1 =>
         rw[hw]at ha;cases ha;obtain⟨B,cs,tt,fz,g1,g2,g3,g4,g5,g6⟩:=Step.wt h hw hnc;obtain⟨B',hB',hcc,hbound⟩:=hh;rcases hcc with rfl|rfl
         ·omega
         ·rw[g1]at hB';cases hB';have hrun:=yv P B.b (o+len*aD P e+B.d) tt fz nu 0 cs w g2 g3.not (by omega) g5;have hr:=u7 (w:=w) (ts:=t::r) (base:=some ⟨B.b,o+B.d,none⟩) (sLen:=len) (sCap:=c) (us:=nu) rfl hu hi rfl hp hlen hroom hnu
           (fun a ea=>by cases ea;rw[jA,show o+B.d+len*aD P e=o+len*aD P e+B.d by omega];exact hrun) (fun e=>by cases e) ty
          exact⟨E,_,_,hr,.of (by simpa using g6),.slu _ _ _ _ _ _ hroom ⟨B,g1,.inr rfl,hbound⟩,tyk fun ht=>ht.2.mono (.refl E) (fI.set g2)⟩
       |false =>
       rw[hrm]at ha;obtain⟨hfit,ha⟩:=eY ha;unfold yW at ha;cases hce:st.ce r0 with
       |none=>rw[hce]at ha;cases ha
       |some lga =>
        obtain⟨l,g,al⟩:=lga;rw[hce]at ha;simp only at ha;cases hcut:cut l o (len*aD P e) with
        |none=>rw[hcut]at ha;cases ha
        |some old =>
         rw[hcut]at ha;simp[bu]at ha;obtain⟨rfl,rfl⟩:=ha;have hnt:st.next<E.top:=hn;generalize hal:(@Bool.rec (fun _=>List Nat) [st.next] (st.next::from_ r0 al) (decide (o+len*aD P e=l.length)))=al';have hal':(al'=st.next::from_ r0 al/\o+len*aD P e=l.length)\/al'=[st.next]:=by
          by_cases hq:o+len*aD P e=l.length
          ·left;rw[decide_eq_true hq]at hal;exact⟨hal.symm,hq⟩
          ·right;rw[decide_eq_false hq]at hal;exact hal.symm
         by_cases hroom:len+n<=c
         ·obtain⟨B,hB,hcc,hbound⟩:=hh;rcases hcc with rfl|rfl
          ·omega
          ·have hmul:(len+n)*aD P e<=c*aD P e:=V3 _ hroom;rw[Z9]at hmul;have hq:=hnc.length;have hq':=hnc'.length;have hnl:=nlen h0;obtain⟨cs,tt,fz,g1,g2,g3,g4⟩:=Step.Hd h hnt hce hcut hal' hnc hB (by omega);have hrun:=yv P B.b (o+B.d+len*aD P e) tt fz nu 0 cs w g1 g2.not (by omega) hone;have hr:=u7 (w:=w) (ts:=t::r) (base:=some ⟨B.b,o+B.d,none⟩) (sLen:=len) (sCap:=c) (us:=nu) rfl hu hi rfl hp hlen hroom hnu
            (fun a ea=>by cases ea;rw[jA];exact hrun) (fun e=>by cases e) ty
           refine⟨_,_,_,hr,.of g4,.slu _ _ _ _ _ _ hroom ⟨_,Env.fj,.inr (by simp),?_⟩,tyk fun ht=>?_⟩
           case refine_2 =>
            obtain⟨ho,B2,hB2,hd2,cs2,fz2,hc2⟩:=ht;rw[hB]at hB2;cases hB2;have hlt:=(Array.getElem?_eq_some_iff.1 g1).1;have htt:tt=e:=by rw[g1]at hc2;simp at hc2;exact hc2.2.1
            subst htt;exact⟨_,Env.fj,fun _=>by show o+B.d=0;rw[ho,hd2 rfl],_,_,Array.getElem?_setIfInBounds_self_of_lt hlt⟩
           simp only;omega
         ·have hfo:firstCells st (aD P e) len (.sl r0 o len (aD P e) none)=some old\/len=0:=by
           by_cases hl0:len=0
           ·exact .inr hl0
           ·left;simp[firstCells,bu,decide_eq_false hl0,rd,hce,hcut]
          have hold:∃ os:List Value,(Q2 (aD P e) len (.slice (some a0) len c)).run P w.drew=.ok os.toArray w.drew/\aP E old os:=by
           rcases hfo with hfo|rfl
           ·exact Cm (P:=P) (w:=w.drew) h hfo (.slu r0 o len _ c a0 hle hh) rfl (Q9 _)
           ·have:=om hcut;rw[X6]at this;have:=U7 this;subst this;exact⟨[],by simp[Q2,EF],.nil⟩
          obtain⟨os,q1,q2⟩:=hold;have hol:os.length=len*aD P e:=by rw[<-q2.length];exact om hcut
          obtain⟨newCap,zc,k1,k2,k3⟩:=anew (some a0) len c old os hroom hfit q1 q2 hol (nlen h0);have hcc:=aP.append q2 hnc';have hcl:=hcc.length;have hs':=Step.Hc h hnt hce hcut hal' (vs:=(os++nu')++zc.toList) e (by rw[hcl];simp) (by rw[hcl,List.take_append_of_le_length (Q9 _),List.take_of_length_le (Q9 _)];exact hcc);have e1:((os++nu')++zc.toList).toArray=(os++nu').toArray++zc:=by apply Array.ext';simp
          rw[e1]at hs';refine⟨_,_,_,k3,⟨hs',rfl,rfl⟩,.slu _ _ _ _ _ _ k1 ⟨_,Env.fj,.inr (by simp),?_⟩,tyk fun _=>⟨_,Env.fj,fun _=>rfl,_,(0,0),MV w _⟩⟩;simp[hol,nlen h0,k2];have:len*aD P e+n*aD P e+(newCap-(len+n))*aD P e=newCap*aD P e:=by rw[<-Z9,<-Z9];congr 1;omega
          omega
     |_=>cases ha
theorem UO(h:Rel E w.heap st){us:Value}(ha:append P st ts s x=some (v,st'))(hs:Conc E s us)(hx:Conc E x ux)(hn:st'.next<=E.top)(ty:TypeId):
  ∃ E' w' cv,(Q1 ts.toArray ty #[us,ux]).run P w=.ok cv w'/\bt E E' w w' st st'/\Conc E' v cv:=by
 obtain⟨E',w',cv,h1,h2,h3,-⟩:=Wy h ha hs hx hn ty;grind
theorem bytes_beq(a c:ByteArray):(a==c)=decide (a=c):=by rw[beq_toListBytes,<-wR,wh,O0];simp;exact⟨fun h=>by have:=IW h;cases a;simp_all,fun h=>by rw[h]⟩
theorem If{y:AV}{v:Value}{b:Bool}(h:ju x y=some b)(hx:Conc E x u)(hy:Conc E y v):
  (∃ k a c,u=.int k a/\v=.int k c/\b=decide (a=c))\/(∃ a c,u=.string a/\v=.string c/\b=decide (a=c)):=by
 unfold ju at h;split at h
 ·obtain⟨hk,h'⟩:=fo h;rw[Hb,decide_eq_true_eq]at hk;subst hk;cases hx;cases hy;grind[ru]
 ·cases hx;cases hy;cases h;rename_i a c;exact .inr ⟨a,c,rfl,rfl,by rw[wR,<-beq_toListBytes,bytes_beq]⟩
 grind
def zx(kd:TypeDesc)(u:Value):Prop:=(∃ k k' n,kd=.int k/\u=.int k' n)\/(∃ s,kd=.string/\u=.string s)
theorem find_spec{kd:TypeDesc}{k:AV}{ku:Value}(hk:Conc E k ku)(hkd:zx kd ku):∀ {es:List (AV× AV× Nat)}{ms:List MapEntry}{i:Nat}{r:Option (Nat× AV)},find k es i=some r->fS E es ms->
  ∃ r',J1 kd ku ms i=some r'/\(match r,r' with
   |none,none=>True
   |some (j,v),some (j',u)=>j=j'/\Conc E v u/\i<=j/\∃ m,ms[j-i]? = some m/\m.val=u/\m.key=ku
   |_,_=>False)
 |[],[],i,r,h,_=>by simp[find]at h;subst h;exact⟨none,rfl,trivial⟩
 |(x,v,b)::es,m::ms,i,r,h,⟨⟨h1,h2,h3⟩,ht⟩=>by
  simp[find]at h;cases he:ju k x with
  |none=>grind
  |some q =>
   rw[he]at h;have key:Q7 kd ku m.key=some q/\(q=true->m.key=ku):=by
    rcases If he hk h1 with ⟨kk,a,c,rfl,hm,rfl⟩|⟨a,c,rfl,hm,rfl⟩
    ·rw[hm];rcases hkd with ⟨k1,k2,n,rfl,hh⟩|⟨s,-,hh⟩
     ·refine⟨?_,fun e=>?_⟩
      ·simp[Q7];rfl
      ·rw[decide_eq_true_eq]at e;rw[e]
     ·cases hh
    ·rw[hm];rcases hkd with ⟨k1,k2,n,rfl,hh⟩|⟨s,rfl,hh⟩
     ·cases hh
     ·refine⟨by simp [Q7]; rw[bytes_beq],fun e=>?_⟩;rw[decide_eq_true_eq]at e;rw[e]
   cases q with
   |true =>cases h;exact⟨some (i,m.val),by simp[J1,key.1],rfl,h2,Q9 _,m,by simp,rfl,key.2 rfl⟩
   |false =>
    obtain⟨r',g1,g2⟩:=find_spec hk hkd h ht;refine⟨r',by simp[J1,key.1];exact g1,?_⟩;cases r with
    |none=>cases r' with
     |none=>trivial
     |some p=>exact g2
    |some p =>
     obtain⟨j,v'⟩:=p;cases r' with
     |none=>exact g2
     |some p' =>obtain⟨q1,q2,q3,m',q4,q5,q6⟩:=g2;refine⟨q1,q2,by omega,m',?_,q5,q6⟩;rw[show j-i=(j-(i+1))+1 by omega];simpa using q4
theorem rV{kt:TypeId}(hk:P.underlying kt=some kd)(hkd:(∃ k,kd=.int k)\/kd=.string)(b:Bool)(u:Value):(V6 b 10000 kt u).run P w=.ok () w:=by
 have key:∀ n,(V6 b (n+1) kt u).run P w=.ok () w:=by
  rcases hkd with ⟨k,rfl⟩|rfl
  ·simp[V6,bQ hk]
  ·simp[V6,bQ hk]
 grind
theorem Dm(h:kV P t k=true)(hk:Conc E k u):∃ kt e kd,P.underlying t=some (.map kt e)/\P.underlying kt=some kd/\((∃ k,kd=.int k)\/kd=.string)/\zx kd u:=by
 unfold kV at h;split at h
 ·rename_i kt e hu;split at h
  ·rename_i kk k' n hkk;cases hk;exact⟨kt,e,_,hu,hkk,.inl ⟨_,rfl⟩,.inl ⟨_,_,_,rfl,rfl⟩⟩
  ·rename_i l hkk;cases hk;exact⟨kt,e,_,hu,hkk,.inr rfl,.inr ⟨_,rfl,rfl⟩⟩
  grind
 grind
theorem Rel.mp(h:Rel E w.heap st){r:Nat}{es:List (AV× AV× Nat)}{clock:Nat}(hr:st.get r=some (.mp es clock)):
  ∃ B ents,E.phi r=some B/\w.heap[B.b]? = some (.map ents clock)/\fS E es ents.toList/\st.alive r=some (.mp es clock):=by
 have ha:st.alive r=some (.mp es clock):=by simp[St.alive,hr]
 obtain⟨B,hB,ents,h1,h2⟩:=h.rows r _ ha;grind
theorem oI{o:Obj}(h:w.heap[b]? = some o)(hc:∀ c e f,o≠.cells c e f):(getObj b).run P w=.ok o w:=by unfold getObj;simp[X8,h]
theorem wE{o o':Obj}(h:w.heap[b]? = some o)(hc:∀ c e f,o≠.cells c e f):(setObj b o').run P w=.ok () { w with heap:=w.heap.setIfInBounds b o' }:=by unfold setObj;simp[X8,h]
theorem GY{kd:TypeDesc}{k:AV}{ku:Value}(hk:Conc E k ku)(hkd:zx kd ku):∀ {es:List (AV× AV)}{ms:List MapEntry}{r:Option AV},mq k es=some r->tn E es ms->
  (∀ m∈ms,(Q7 kd ku m.key=some true/\∃ v,r=some v/\Conc E v m.val)\/Q7 kd ku m.key=some false)/\(∀ v,r=some v->∃ m∈ms,Q7 kd ku m.key=some true)
 |[],[],r,h,_=>by cases h;grind
 |(x,v)::es,m::ms,r,h,⟨⟨h1,h2⟩,ht⟩=>by
  have key:∀ {q:Bool},ju k x=some q->Q7 kd ku m.key=some q:=by
   intro q he;rcases If he hk h1 with ⟨kk,a,c,rfl,hm,rfl⟩|⟨a,c,rfl,hm,rfl⟩
   ·rw[hm];rcases hkd with ⟨k1,k2,n,rfl,hh⟩|⟨s,-,hh⟩
    ·simp[Q7];rfl
    ·cases hh
   ·rw[hm];rcases hkd with ⟨k1,k2,n,rfl,hh⟩|⟨s,rfl,hh⟩
    ·cases hh
    ·simp[Q7];rw[bytes_beq]
  unfold mq at h;cases he:ju k x with
  |none=>rw[he]at h;cases h
  |some q =>
   rw[he]at h;have hq:=key he;cases q with
   |false =>
    obtain⟨g1,g2⟩:=GY hk hkd h ht;refine⟨fun m' hm'=>?_,fun v' hv'=>?_⟩
    ·rcases X9.1 hm' with rfl|hm'
     ·exact .inr hq
     ·exact g1 m' hm'
    ·obtain⟨m',a,b⟩:=g2 v' hv';exact⟨m',Y0 _ a,b⟩
   |true =>
    cases hf:mq k es with
    |none=>rw[hf]at h;cases h
    |some r' =>
     rw[hf]at h;cases r' with
     |some _=>cases h
     |none =>
      cases h;obtain⟨g1,_⟩:=GY hk hkd hf ht;refine⟨fun m' hm'=>?_,fun v' hv'=>⟨m,Y1 ..,hq⟩⟩;rcases X9.1 hm' with rfl|hm'
      ·exact .inl ⟨hq,v,rfl,h2⟩
      ·rcases g1 m' hm' with ⟨_,v',hv',_⟩|hh
       ·cases hv'
       ·exact .inr hh
theorem Iq{kd:TypeDesc}{ku:Value}:∀ {ms:List MapEntry}(i:Nat),(∀ m∈ms,Q7 kd ku m.key=some true\/Q7 kd ku m.key=some false)->
  (J1 kd ku ms i=some none/\∀ m∈ms,Q7 kd ku m.key=some false)\/∃ j m,m∈ms/\J1 kd ku ms i=some (some (j,m.val))/\Q7 kd ku m.key=some true
 |[],i,_=>.inl ⟨rfl,fun m hm=>by grind⟩
 |m::ms,i,h=>by
  rcases h m (Y1 ..) with h1|h1
  ·exact .inr ⟨i,m,Y1 ..,by simp[J1,h1],h1⟩
  ·rcases Iq (i+1) fun m' hm'=>h m' (Y0 _ hm') with ⟨g1,g2⟩|⟨j,m',g1,g2,g3⟩
   ·refine .inl ⟨by simp [J1,h1]; exact g1,fun m' hm'=>?_⟩;rcases X9.1 hm' with rfl|hm'
    ·exact h1
    ·exact g2 m' hm'
   ·exact .inr ⟨j,m',Y0 _ g1,by simp[J1,h1];exact g2,g3⟩
theorem Rel.mu(h:Rel E w.heap st){r:Nat}{es:List (AV× AV)}(hr:st.get r=some (.mu es)):
  ∃ B ents clock ms,E.phi r=some B/\w.heap[B.b]? = some (.map ents clock)/\tn E es ms/\ents.toList.Perm ms:=by
 have:st.alive r=some (.mu es):=by unfold St.alive;grind
 obtain⟨B,hB,ents,c,ms,h1,h2,h3⟩:=h.rows _ _ this;grind
theorem QU(h:Rel E w.heap st){ok:Bool}(hl:lookup P t st x k ok=some v)(hx:Conc E x ux)(hk:Conc E k uk):
  ∃ z,(Z5 t ux uk ok).run P w=.ok z w/\Conc E v z:=by
 unfold lookup at hl;split at hl
 ·rename_i kt e hu;cases hz:zeroOf P e with
  |none=>grind
  |some zv =>
   rw[hz]at hl;obtain⟨hkf,hl⟩:=eY hl;obtain⟨z,rfl,hzr⟩:=I7 hz;obtain⟨kt',e',kd,hu',hkd,hkk,hdesc⟩:=Dm hkf hk;rw[hu]at hu';cases hu';have back:∀ (v:AV) (u:Value) (b:Bool),Conc E v u->Conc E (bif ok then .tu [v,.b b] else v) (if ok then .tuple #[u,.bool b] else u):=by
    intro v u b hv;cases ok with
    |true=>exact .tu _ [u,.bool b] (.cons _ _ _ _ hv (.cons _ _ _ _ (.b b) .nil))
    |false=>grind
   cases hx with
   |m r B hB =>
    cases hg:st.get r with
    |none=>grind
    |some row =>
     cases row with
     |mp es clock =>
      simp[hg]at hl;obtain⟨B',ents,hB',h1,h2,-⟩:=h.mp hg;rw[hB]at hB';cases hB';cases hf:find k es 0 with
      |none=>grind
      |some rr =>
       obtain⟨r',g1,g2⟩:=find_spec hk hdesc hf h2;rw[hf]at hl;have hgo:=oI (P:=P) h1 (by grind);cases rr with
       |none =>
        cases r' with
        |some p=>exact g2.elim
        |none =>simp at hl;subst hl;refine⟨if ok then .tuple #[z,.bool false] else z,?_,back _ _ _ (uw z)⟩;simp[Z5,bQ hu,hgo,rV hkd hkk,J3,bQ hkd,g1,hzr]
       |some p =>
        cases r' with
        |none=>exact g2.elim
        |some p' =>obtain⟨j',u⟩:=p';simp at hl;subst hl;refine⟨if ok then .tuple #[u,.bool true] else u,?_,back _ _ _ g2.2.1⟩;simp[Z5,bQ hu,hgo,rV hkd hkk,J3,bQ hkd,g1]
     |mu es =>
      simp[hg]at hl;obtain⟨B',ents,clock,ms,hB',h1,h2,h3⟩:=h.mu hg;rw[hB]at hB';cases hB';have hgo:=oI (P:=P) h1 (by intros;exact Obj.noConfusion);cases hf:mq k es with
      |none=>rw[hf]at hl;cases hl
      |some rr =>
       rw[hf]at hl;obtain⟨g1,g2⟩:=GY hk hdesc hf h2;have g1':∀ m∈ents.toList,_:=fun m hm=>g1 m (h3.mem_iff.1 hm)
       rcases Iq 0 (fun m hm=>(g1' m hm).imp (·.1) id) with ⟨q1,q2⟩|⟨j,m,q0,q1,q2⟩
       ·cases rr with
        |none =>simp at hl;subst hl;refine⟨if ok then .tuple #[z,.bool false] else z,?_,back _ _ _ (uw z)⟩;simp[Z5,bQ hu,hgo,rV hkd hkk,J3,bQ hkd,q1,hzr]
        |some vv =>obtain⟨m,hm,hs⟩:=g2 vv rfl;have:=q2 m (h3.mem_iff.2 hm);rw[this]at hs;cases hs
       ·rcases g1' m q0 with ⟨_,vv,rfl,hc⟩|hh
        ·simp at hl;subst hl;refine⟨if ok then .tuple #[m.val,.bool true] else m.val,?_,back _ _ _ hc⟩;simp[Z5,bQ hu,hgo,rV hkd hkk,J3,bQ hkd,q1]
        ·rw[q2]at hh;cases hh
     |_=>simp only[hg]at hl;cases hl
   |mn =>simp at hl;subst hl;refine⟨if ok then .tuple #[z,.bool false] else z,?_,back _ _ _ (uw z)⟩;have g1:J1 kd uk ([]:List MapEntry) 0=some none:=rfl;simp[Z5,bQ hu,rV hkd hkk,J3,bQ hkd,g1,hzr]
   |_=>cases hl
 grind
theorem fS.mf{v:AV}{u:Value}(hv:Conc E v u):∀ {es:List (AV× AV× Nat)} {ms:List MapEntry} (i:Nat),fS E es ms->fS E (mf es i v) (ms.modify i fun e=>{ e with val:=u })
 |[],[],i,_=>by cases i<;>exact trivial
 |(k,x,b)::es,m::ms,0,⟨⟨h1,h2,h3⟩,ht⟩=>⟨⟨h1,hv,h3⟩,ht⟩
 |e::es,m::ms,i+1,⟨h1,ht⟩=>⟨h1,fS.mf hv i ht⟩
theorem fS.snoc{k v:AV}{ku vu:Value}{c:Nat}(hk:Conc E k ku)(hv:Conc E v vu):∀ {es:List (AV× AV× Nat)}{ms:List MapEntry},fS E es ms->fS E (es++[(k,v,c)]) (ms++[{ key:=ku,val:=vu,born:=c }])
 |[],[],_=>⟨⟨hk,hv,rfl⟩,trivial⟩
 |_::_,_::_,⟨h1,ht⟩=>⟨h1,fS.snoc hk hv ht⟩
theorem sameBits_self(h:zx kd u)(n:Nat):Y2 n u u=true:=by
 rcases h with ⟨k,k',m,-,rfl⟩|⟨s,-,rfl⟩
 ·cases n<;>simp[Y2]
 ·cases n<;>(simp[Y2];rw[bytes_beq];simp)
theorem KH(h:Rel E w.heap st)(hl:mapUpdate P t st x k v=some st')(hx:Conc E x ux)(hk:Conc E k uk)(hv:Conc E v uv):
  ∃ w',(Y3 t ux uk uv).run P w=.ok () w'/\bt E E w w' st st':=by
 obtain⟨hkf,hl⟩:=eY hl;obtain⟨kt,e,kd,hu,hkd,hkk,hdesc⟩:=Dm hkf hk;cases hx with
 |m r B hB =>
  cases hg:st.get r with
  |none=>grind
  |some row =>
   cases row with
   |mp es clock =>
    simp[hg]at hl;obtain⟨B',ents,hB',h1,h2,halive⟩:=h.mp hg;rw[hB]at hB';cases hB';cases hf:find k es 0 with
    |none=>grind
    |some rr =>
     obtain⟨r',g1,g2⟩:=find_spec hk hdesc hf h2;rw[hf]at hl;have hgo:=oI (P:=P) h1 (by grind);cases rr with
     |none =>
      cases r' with
      |some p=>grind
      |none =>
       cases hl;refine⟨{ w with heap:=w.heap.setIfInBounds B.b (.map (ents.push { key:=uk,val:=uv,born:=clock }) (clock+1)) },?_,?_⟩
       ·simp_all[Y3,bQ,rV,J3,wE]
       ·exact bt.of <| Step.putRow h halive hB (by grind) (by grind) _ (fun H' hH'=>⟨_,hH',by simpa using h2.snoc hk hv⟩)
     |some p =>
      obtain⟨j,vv⟩:=p;cases r' with
      |none=>grind
      |some p' =>
       obtain⟨j',u⟩:=p';obtain⟨rfl,hcv,-,m,hm,rfl,hmk⟩:=g2;cases hl;have hm':ents[j]? = some m:=by grind
       refine⟨{ w with heap:=w.heap.setIfInBounds B.b (.map (ents.modify j fun e=>{ e with key:=uk,val:=uv }) clock) },?_,?_⟩
       ·simp[Y3,bQ hu,hgo,rV hkd hkk,J3,bQ hkd,g1,hm',hmk,L1,sameBits_self hdesc];grind[wE]
       ·refine bt.of <| Step.putRow h halive hB (by grind) (by grind) _ (fun H' hH'=>⟨_,hH',?_⟩)
        have e1:(ents.modify j fun e=>{ e with key:=uk,val:=uv }).toList=ents.toList.modify j fun e=>{ e with val:=uv }:=by apply V7;grind
        rw[e1];exact h2.mf hv j
   |_=>grind
 |_=>grind
theorem KI:∀ {es:List (AV× AV× Nat)}{ms:List MapEntry}(i:Nat) (m:MapEntry),fS E es ms->ms[i]? = some m->Cs es i=m.born
 |[],[],i,m,_,h=>by grind
 |(k,x,b)::es,m'::ms,0,m,⟨⟨_,_,h3⟩,_⟩,h=>by simp at h;subst h;exact h3.symm
 |e::es,m'::ms,i+1,m,⟨_,ht⟩,h=>KI i m ht (by grind)
theorem Ny{b:Nat}:∀ {es:List (AV× AV× Nat)} {ms:List MapEntry} (n:Nat),fS E es ms->tJ b es n=(ms.findIdx? fun e=>(e.born:Int)==(b:Int)).map (· + n)
 |[],[],n,_=>rfl
 |(k,x,c)::es,m::ms,n,⟨⟨_,_,h3⟩,ht⟩=>by
  have e:tJ b ((k,x,c)::es) n=@Bool.rec (fun _=>Option Nat) (tJ b es (n+1)) (some n) (Y4 c b):=rfl;rw[e,Ny (n+1) ht,List.findIdx?_cons];have h3':m.born=c:=h3;rw[h3',bu];by_cases hc:c=b
  ·simp_all
  ·have:((c:Int)==(b:Int))=false:=by grind
   rw[decide_eq_false hc,this];simp;congr 1;grind
theorem aac(h:Rel E w.heap st)(hl:mapEntry P t st x k=some (v,st'))(hx:Conc E x ux)(hk:Conc E k uk):
  ∃ w' z,(Y5 t ux uk).run P w=.ok z w'/\bt E E w w' st st'/\Conc E v z:=by
 obtain⟨hkf,hl⟩:=eY hl;obtain⟨kt,e',kd,hu,hkd,hkk,hdesc⟩:=Dm hkf hk;split at hl
 case h_2=>grind
 cases hx with
 |m r B hB =>
  unfold Ao at hl;split at hl
  case h_2=>grind
  rename_i es clock hg;obtain⟨B',ents,hB',h1,h2,halive⟩:=h.mp hg;rw[hB]at hB';cases hB';have hgo:=oI (P:=P) h1 (by grind);cases hf:find k es 0 with
  |none=>grind
  |some rr =>
   obtain⟨r',g1,g2⟩:=find_spec hk hdesc hf h2;rw[hf]at hl;cases rr with
   |none =>
    cases r' with
    |some p=>grind
    |none =>
     simp only at hl;unfold FV at hl;split at hl
     case h_2=>grind
     rename_i zv hz;obtain⟨z,rfl,hzr⟩:=I7 hz;cases hl;refine⟨{ w with heap:=w.heap.setIfInBounds B.b (.map (ents.push { key:=uk,val:=z,born:=clock }) (clock+1)) },.tuple #[z,goInt clock],?_,?_,?_⟩
     ·simp_all[Y5,bQ,rV,J3,wE]
     ·exact bt.of <| Step.putRow h halive hB (by grind) (by grind) _ (fun H' hH'=>⟨_,hH',by simpa using h2.snoc hk (uw z)⟩)
     ·exact .tu _ [z,.int .i64 (Q0 clock)] (.cons _ _ _ _ (uw z) (.cons _ _ _ _ (.i _ _) .nil))
   |some p =>
    obtain⟨j,vv⟩:=p;cases r' with
    |none=>grind
    |some p' =>
     obtain⟨j',u⟩:=p';obtain⟨rfl,hcv,-,m,hm,rfl,hmk⟩:=g2;cases hl;have hm':ents[j]? = some m:=by grind
     have hb:Cs es j=m.born:=KI j m h2 hm;refine⟨{ w with heap:=w.heap.setIfInBounds B.b (.map (ents.modify j fun e=>{ e with key:=uk }) clock) },.tuple #[m.val,goInt m.born],?_,?_,?_⟩
     ·simp[Y5,bQ hu,hgo,rV hkd hkk,J3,bQ hkd,g1,hm',hmk,L1,sameBits_self hdesc];simp_all[wE]
     ·refine bt.of <| Step.putRow h halive hB (by grind) (by grind) _ (fun H' hH'=>⟨_,hH',?_⟩)
      have e1:(ents.modify j fun e=>{ e with key:=uk }).toList=ents.toList:=by
       apply V7;intro q;by_cases hq:j=q
       ·cases m;grind
       grind
      grind
     ·rw[hb];exact .tu _ [m.val,.int .i64 (Q0 m.born)] (.cons _ _ _ _ hcv (.cons _ _ _ _ (.i _ _) .nil))
theorem aap(h:Rel E w.heap st){us:Value}(hl:entryStore st v x (gk s)=some st')(hx:Conc E x ux)(hs:Conc E s us)(hv:Conc E v uv):
  ∃ w',(M6 t ux us uv).run P w=.ok () w'/\bt E E w w' st st':=by
 cases hn:gk s with
 |none=>rw[hn]at hl;cases x<;>cases hl
 |some b =>
  obtain⟨kk,rfl⟩:=Iy hn;cases hs;rw[hn]at hl;cases hx with
  |m r B hB =>
   simp[entryStore]at hl;split at hl
   case h_2=>grind
   rename_i es clock hg;obtain⟨B',ents,hB',h1,h2,halive⟩:=h.mp hg;have hgo:=oI (P:=P) h1 (by grind);rw[Ny 0 h2]at hl;cases hf:ents.toList.findIdx? (fun e=>(e.born:Int)==(b:Int)) with
   |none=>rw[hf]at hl;cases hl
   |some i =>
    rw[hf]at hl;cases hl;have hf':ents.findIdx? (fun e=>(e.born:Int)==Q0 b)=some i:=by
     have e:ents.findIdx? (fun e=>(e.born:Int)==Q0 b)=ents.toList.findIdx? (fun e=>(e.born:Int)==Q0 b):=by
      conv=>lhs;rw[show ents=ents.toList.toArray from rfl]
      grind
     grind
    refine⟨{ w with heap:=w.heap.setIfInBounds B.b (.map (ents.modify i fun e=>{ e with val:=uv }) clock) },?_,?_⟩
    ·simp_all[M6,asInt,asIntOf,wE]
    ·refine bt.of <| Step.putRow h halive hB (by grind) (by grind) _ (fun H' hH'=>⟨_,hH',?_⟩)
     rw[Array.toList_modify];exact h2.mf hv i
  |_=>simp only[entryStore]at hl;grind
def rZ(E:Env)(w:World)(st st':St)(v:AV)(r:Result Next):Prop :=
 ∃ E' w' cv,(r=.ok (.value cv) w'\/(r=.ok .skip w'/\cv=undef))/\bt E E' w w' st st'/\Conc E' v cv
theorem pX{s:Sem Value}{z:Value}(h:Rel E w.heap st)(hr:s.run P w=.ok z w)(hc:Conc E v z):rZ E w st st v ((do pure (.value (<-s)):Sem Next).run P w):=
 ⟨E,w,z,.inl (by simp_all),.refl h,hc⟩
theorem qu{s:Sem Value}{z:Value}{E':Env}(hr:s.run P w=.ok z w')(hs:bt E E' w w' st st')(hc:Conc E' v z):rZ E w st st' v ((do pure (.value (<-s)):Sem Next).run P w):=
 ⟨E',w',z,.inl (by simp_all),hs,hc⟩
theorem Ec{s:Sem Unit}(hr:s.run P w=.ok () w')(hs:bt E E w w' st st'):rZ E w st st' .un ((do s;pure .skip:Sem Next).run P w):=
 ⟨E,w',undef,.inr ⟨by simp_all,rfl⟩,hs,.un⟩
theorem kH{o:Option AV}(h:dC st o=some (v,st')):o=some v/\st'=st:=by
 cases o with
 |none=>cases h
 |some x=>cases h;grind
theorem Cj{o:Option St}(h:done o=some (v,st')):o=some st'/\v=.un:=by
 cases o with
 |none=>cases h
 |some x=>cases h;grind
theorem MD{b:Bool}(h:x.gV=some b)(hx:Conc E x u):(asBool u).run P w=.ok b w:=by have:=AV.zi h;subst this;cases hx;rfl
theorem P6(h:Rel E w.heap st){l:Option (List AV)}(ha:mY st l=some (v,st'))(hn:st'.next<=E.top){us:Array Value}(t:TypeId)(hc:∀ l',l=some l'->aP E l' us.toList):
  ∃ E' w' z,(newRow t us).run P w=.ok z w'/\bt E E' w w' st st'/\Conc E' v (.pointer (some z)):=by
 cases l with
 |none=>cases ha
 |some l =>cases ha;obtain⟨E',w',h1,h2,h3⟩:=Og h (show st.next+1<=E.top from hn) t (hc l rfl);refine⟨E',w',_,h1,h2,?_⟩;have:=Conc.p st.next 0 _ h3;grind
theorem NP{t:Tr AV}(hρ:∀ x,Conc E (ai t x) (ρ x)){place:Nat->Option (Nat× Nat)}{parts:List (Nat× Operand)}{z:Option (List AV)}
  (h:jg st place (gQ t parts) z=some (v,st')) {us:Array Value} (hz:∀ l,z=some l->aP E l us.toList):
  st'=st/\∃ us':Array Value,Y6 place us (parts.map fun(i,x)=>(i,ρ x))=some us'/\Conc E v (.agg us'):=by
 cases z with
 |none=>cases h
 |some l =>
  simp[jg]at h;cases hf:fill place l (gQ t parts) with
  |none=>rw[hf]at h;cases h
  |some l' =>rw[hf]at h;cases h;obtain⟨us',h1,h2⟩:=Es hρ parts l l' us hf (hz l rfl);exact⟨rfl,us',h1,by simpa using Conc.ag l' us'.toList h2⟩
theorem Lu:∀ (l:List Field),(∀ f∈l,bp P f.type=true)->(l.mapM fun f=>(do pure (f.offset,<- sizeOf f.type):Sem (Nat× Nat))).run P w=.ok (l.map fun f=>(f.offset,aD P f.type)) w
 |[],_=>by simp
 |f::l,h=>by simp only[List.mapM_cons,Q3,gU (h f (by simp)),Q4,Q8,Lu l (fun g hg=>h g (by simp[hg])),List.map_cons]
theorem Kz{t:Tr AV}(hρ:∀ x,Conc E (ai t x) (ρ x))(hb:N6 ty parts P S t st=some (v,st')):
  st'=st/\∃ z,(Y7 ty (parts.map fun(i,x)=>(i,ρ x))).run P w=.ok z w/\Conc E v z:=by
 obtain⟨hwf,hb⟩:=eY hb;unfold df at hb;split at hb
 ·rename_i fs hu;have hfs:∀ f∈fs.toList,bp P f.type=true:=by
   grind[fu]
  cases hz:bm P ty with
  |none=>rw[hz]at hb;cases hb
  |some l =>
   obtain⟨z,g1,g2,g3,g4⟩:=rG (E:=E) hz;obtain⟨rfl,us',k1,k2⟩:=NP hρ hb (us:=z.cells) (fun l' e=>by grind);have hp:=Lu (w:=w) fs.toList hfs;have hm:(fs.mapM fun f=>(do pure (f.offset,<-sizeOf f.type):Sem (Nat× Nat))).run P w=.ok (fs.map fun f=>(f.offset,aD P f.type)) w:=by rw[Array.mapM_eq_mapM_toList,Sem.run_map,hp];rw[<-Array.toList_map];simp only[Q4,Array.toArray_toList]
   have hpl:(fun i=>(fs.map fun f=>(f.offset,aD P f.type))[i]?)=gM P fs:=by grind[gM]
   simp_all[Y7,bQ]
 ·rename_i n e hu;have hel:bp P e=true:=by simpa only[fu,hu]using hwf
  cases hz:bm P ty with
  |none=>rw[hz]at hb;cases hb
  |some l =>
   obtain⟨z,g1,g2,g3,g4⟩:=rG (E:=E) hz;obtain⟨rfl,us',k1,k2⟩:=NP hρ hb (us:=z.cells) (fun l' e=>by grind);simp[Y7,g1,bQ hu,gU hel];have k1':Y6 (fun i=>some (i*aD P e,aD P e)) z.cells (parts.map fun(i,x)=>(i,ρ x)).toList=some us':=by have:(fun i=>some (i*aD P e,aD P e))=jB (aD P e):=rfl;simp_all
   simp_all
 grind
theorem FX{α:Type}(l:List α):∀ (n j:Nat),j<n*l.length->(rep n l)[j]? = l[j % l.length]?
 |0,j,h=>by grind
 |n+1,j,h=>by
  unfold rep;rw[List.getElem?_append];split
  ·rename_i hj;rw[Nat.mod_eq_of_lt hj]
  ·have h':j<n*l.length+l.length:=by grind
   have hm:j % l.length=(j-l.length) % l.length:=Nat.mod_eq_sub_mod (by omega);rw[FX l n (j-l.length) (by omega),hm]
theorem ZW(z:Array Value)(n m:Nat)(h:z.size=m):((Y8 (n*m)).map (z[· % z.size]!)).toList=rep n z.toList:=by
 apply V7;intro j;by_cases hj:j<n*z.size
 ·rw[FX z.toList n j (by grind)];grind[Nat.mod_lt]
 grind[wT]
theorem Mu{α:Type}:∀ n:Nat,rep n ([]:List α)=[]
 |0=>rfl
 |n+1=>by simp[rep,Mu n]
theorem QQ{z:List AV}(hz:bm P e=some z)(n:Nat):∃ (zero:Array Value),(∀ (K:Array Value->Sem Value) w,
   (if n*aD P e=0 then(do let zero <-pure #[];K zero) else(do let v <-zeroValue e;let zero <-pure v.cells;K zero):Sem Value).run P w=(K zero).run P w)/\
  aP E (rep n z) ((Y8 (n*aD P e)).map (zero[· % zero.size]!)).toList:=by
 obtain⟨v,g1,g2,g3,g4⟩:=rG (E:=E) hz;have hsz:v.cells.size=aD P e:=by have:=g2.length;grind
 by_cases h0:n*aD P e=0
 ·refine⟨#[],fun K w=>by grind,?_⟩;rw[h0];have:rep n z=[]:=by
   rcases M8.1 h0 with hh|hh
   ·subst hh;rfl
   grind[Mu]
  rw[this];simpa using aP.nil
 ·refine⟨v.cells,fun K w=>by simp_all,?_⟩;grind[ZW,DZ]
theorem Xz(h:Rel E w.heap st){l:List AV}(hs:uq st len z (some l)=some (v,st'))(hn:st'.next<=E.top){us:Array Value}(t:TypeId)(hc:aP E l us.toList):
  ∃ E' w' a,(newRow t us).run P w=.ok a w'/\bt E E' w w' st st'/\Conc E' v (.slice (some a) len len):=by
 cases hs;obtain⟨E',w',h1,h2,h3⟩:=Og h (show st.next+1<=E.top from hn) t hc;exact⟨E',w',_,h1,h2,.slk st.next 0 len z len _ (Q9 _) (.inr ⟨_,h3,by simp⟩)⟩
theorem Vh(h:Rel E w.heap st){t:Tr AV}(hρ:∀ x,Conc E (ai t x) (ρ x))
  (hb:oZ ty len parts P S t st=some (v,st')) (hn:st'.next<=E.top):
  ∃ E' w' z,(M9 ty len (parts.map fun(i,x)=>(i,ρ x))).run P w=.ok z w'/\bt E E' w w' st st'/\Conc E' v z:=by
 unfold oZ at hb;split at hb
 ·grind
 ·rename_i e he;have hu:=qi he;cases hz:bm P e with
  |none=>grind
  |some z =>
   rw[hz]at hb;obtain⟨hle,hb⟩:=eY hb;obtain⟨zero,g1,g2⟩:=QQ hz len;have hi:bp P e=true:=by obtain⟨_,_,_,g3,_⟩:=rG (E:=E) hz;grind
   cases hf:fill (jB (aD P e)) (rep len z) (gQ t parts.toList) with
   |none=>rw[hf]at hb;cases hb
   |some l' =>
    rw[hf]at hb;obtain⟨us',h1,h2⟩:=Es hρ parts.toList _ l' _ hf g2;obtain⟨E',w',a,k1,k2,k3⟩:=Xz (P:=P) h hb hn e h2;refine⟨E',w',_,?_,k2,k3⟩;have hle':¬ len*aD P e > 2 ^ 24:=by simp_all
    have h1':Y6 (fun i=>some (i*aD P e,aD P e)) ((Y8 (len*aD P e)).map (zero[· % zero.size]!)) (parts.map fun(i,x)=>(i,ρ x)).toList=some us':=by have:(fun i=>some (i*aD P e,aD P e))=jB (aD P e):=rfl;simp_all
    simp only[M9,Q3,bQ hu,Q4,gU hi,if_neg hle'];refine(g1 (fun zero=>_) w).trans ?_;simp_all
theorem Rel.row(h:Rel E w.heap st){r:Nat}{row:Row}(hr:st.get r=some row)(hce:∀ l g,row≠.ce l g)(hty:∀ t r0 x,row≠.ty t r0 x:=by(intro _ _ _ h;cases h)):∃ B,E.phi r=some B/\im E w.heap B row/\st.alive r=some row:=by
 have ha:st.alive r=some row:=by
  unfold St.alive;rw[hr];cases row with
  |ce l g=>exact absurd rfl (hce l g)
  |mp=>rfl
  |si=>rfl
  |mi=>rfl
  |lp=>rfl
  |mu=>rfl
  |ch=>rfl
  |ty t r0 x=>exact absurd rfl (hty t r0 x)
 obtain⟨B,hB,hR⟩:=h.rows r row ha;exact⟨B,hB,hR,ha⟩
theorem I9(h:Rel E w.heap st)(hn:st.next+1<=E.top)(o:Obj)(row:Row)(hce:∀ l g,row≠.ce l g)
  (hrow:∀ F,E.le F->im F (w.heap.push o) ⟨w.heap.size,0,0⟩ row):
  bt E (E.bind st.next ⟨w.heap.size,0,0⟩) w { w with heap:=w.heap.push o } st (st.new row):=.of (Step.newRow h hn o row hce hrow)
theorem RU(h:Rel E w.heap st)(hr:rL P ty st x=some (v,st'))(hx:Conc E x u)(hn:st'.next<=E.top):
  ∃ E' w' z,(R9 ty u).run P w=.ok z w'/\bt E E' w w' st st'/\Conc E' v z:=by
 unfold rL at hr;split at hr
 ·rename_i k e r hu;split at hr
  ·rename_i es clock hg;cases hr;cases hx;rename_i B hB;have hn':st.next+1<=E.top:=hn;obtain⟨B',ents,hB',hw,hc,_⟩:=Rel.mp h hg;refine⟨_,{ w with heap:=w.heap.push (.mapIter (some B.b) clock #[] clock) },.pointer (some ⟨w.heap.size,0,none⟩),?_,I9 h hn' _ (.mi (some r) clock [] clock) (fun _ _ e=>by grind) ?_,?_⟩
   ·simp_all[R9,bQ,oI]
   ·intro F hF;exact⟨rfl,some B.b,by simp,B,hF.phi _ _ hB,rfl⟩
   ·have:=Conc.p (E:=E.bind st.next ⟨w.heap.size,0,0⟩) st.next 0 _ Env.fj;grind
  grind
 grind
theorem Ij{seen:List Nat}:∀ {es:List (AV× AV× Nat)} {ms:List MapEntry},fS E es ms->fS E (left seen es) (ms.filter fun e=>!seen.contains e.born)
 |[],[],_=>trivial
 |e::es,m::ms,⟨h,t⟩=>by
  have hm:mem e.2.2 seen=seen.contains m.born:=by rw[h.2.2,O0,mem_iff];simp
  have ih:=Ij (seen:=seen) t;unfold left at ih|-;simp only[List.filter_cons,hm];split
  ·exact⟨h,ih⟩
  grind
theorem Mf{last:Nat}:∀ {es:List (AV× AV× Nat)} {ms:List MapEntry},fS E es ms->(es.all fun e=>J5 last e.2.2)=ms.all fun e=>decide (e.born ≥ last)
 |[],[],_=>rfl
 |e::es,m::ms,⟨h,t⟩=>by simp[Mf t,h.2.2];grind[Nat.ble_eq]
theorem empty_eq:∀ {es:List (AV× AV× Nat)}{ms:List MapEntry},fS E es ms->es.isEmpty=ms.isEmpty
 |[],[],_=>rfl
 |_::_,_::_,_=>rfl
theorem aev{q:Question}(h:q.forced=true):(choose q).run P w=.ok 0 w:=by simp_all
theorem abE(h:Rel E w.heap st){isS:Bool}(hr:wZ st isS x=some (v,st'))(hx:Conc E x u)(ty:TypeId):
  ∃ w' z,(V0 u isS ty).run P w=.ok z w'/\bt E E w w' st st'/\Conc E v z:=by
 unfold wZ at hr;split at hr
 ·cases hx;rename_i B hB;split at hr
  ·rename_i m since seen last hg;split at hr
   ·rename_i es clock hgm;obtain⟨B',hB',hR,ha⟩:=Rel.row h hg (fun _ _ e=>by grind);rw[hB]at hB';cases hB';obtain⟨hd,mm,hw,Bm,hBm,rfl⟩:=hR;obtain⟨Bm',ents,hBm',hwm,hc,_⟩:=Rel.mp h hgm;rw[hBm]at hBm';cases hBm';have he:(V0 (.pointer (some ⟨B.b,0+B.d,none⟩)) false ty).run P w=(V0 (.pointer (some ⟨B.b,0,none⟩)) false ty).run P w:=by grind
    rw[he];unfold FY at hr;have hguard:(!seen.toArray.isEmpty&&!ents.isEmpty&&ents.all fun e=>decide (e.born ≥ last))=(!seen.isEmpty&&!es.isEmpty&&es.all fun e=>J5 last e.2.2):=by rw[Mf hc,empty_eq hc];simp
    cases hgd:(!seen.isEmpty&&!es.isEmpty&&es.all fun e=>J5 last e.2.2) with
    |true=>simp_all
    |false =>
     rw[hgd]at hr hguard;have hfl:=Ij (seen:=seen) hc;have hfa:(ents.filter fun e=>!seen.toArray.contains e.born).toList=ents.toList.filter fun e=>!seen.contains e.born:=by simp
     split at hr
     ·cases hr;have hz:ents.toList.filter (fun e=>!seen.contains e.born)=[]:=by
       grind[fS]
      have hze:(ents.filter fun e=>!seen.toArray.contains e.born) = #[]:=I1.1 (by grind);refine⟨w,_,?_,.refl h,.tu _ [.bool false] (.cons _ _ _ _ (.b false) .nil)⟩;unfold V0;simp only[Q3,oI hw (fun _ _ _ e=>by grind),oI hwm (fun _ _ _ e=>by grind),Q4,hguard,I2,if_false,hze];rw[show((if ((#[]:Array MapEntry).filter fun x=>decide (x.born<since)).isEmpty=true then #[none] else #[])++((#[]:Array MapEntry).filter (fun x=>decide (x.born<since))++(#[]:Array MapEntry).filter (fun x=>decide (x.born ≥ since))).map some) = #[(none:Option MapEntry)] by simp];rfl
     ·rename_i k v0 b hl;obtain⟨hb,hr⟩:=eY hr;cases hr;rw[hl]at hfl;obtain⟨me,hz,hk,hv,hbo⟩:∃ me,ents.toList.filter (fun e=>!seen.contains e.born)=[me]/\Conc E k me.key/\Conc E v0 me.val/\me.born=b:=by
       cases hf:ents.toList.filter (fun e=>!seen.contains e.born) with
       |nil=>grind[fS]
       |cons a t =>
        rw[hf]at hfl;cases t with
        |nil=>exact⟨a,rfl,hfl.1.1,hfl.1.2.1,hfl.1.2.2⟩
        |cons _ _=>exact absurd hfl.2 (by simp[fS])
      have hze:(ents.filter fun e=>!seen.toArray.contains e.born) = #[me]:=I1.1 (by grind);have hlt:me.born<since:=by simp_all
      refine⟨{ w with heap:=w.heap.setIfInBounds B.b (.mapIter (some Bm.b) since (seen.toArray.push me.born) clock) },.tuple #[.bool true,me.key,me.val],?_,?_,?_⟩
      ·unfold V0;simp only[Q3,oI hw (fun _ _ _ e=>by cases e),oI hwm (fun _ _ _ e=>by cases e),Q4,hguard,I2,if_false,hze];rw[show((if ((#[me]:Array MapEntry).filter fun x=>decide (x.born<since)).isEmpty=true then #[none] else #[])++((#[me]:Array MapEntry).filter (fun x=>decide (x.born<since))++(#[me]:Array MapEntry).filter (fun x=>decide (x.born ≥ since))).map some) = #[some me] by
        have:¬ since<=me.born:=by omega
        simp[hlt,this]]
       show(X8 P (setObj B.b _ >>= fun _=>_) w)=_
       rw[Q3,wE hw (fun _ _ _ e=>by cases e)];rfl
      ·exact bt.of <| Step.putRow h ha hB (fun _ _ e=>by cases e) (fun _ _ e=>by cases e) _ (fun H' hH=>⟨hd,some Bm.b,by rw[hH];simp[hbo],Bm,hBm,rfl⟩)
      ·exact .tu _ [.bool true,me.key,me.val] (.cons _ _ _ _ (.b true) (.cons _ _ _ _ hk (.cons _ _ _ _ hv .nil)))
     grind
   grind
  grind
 grind
theorem OZ:∀ l:List Nat,Bt l=l.getLast?
 |[]=>rfl
 |[_]=>rfl
 |_::y::l=>by exact OZ (y::l)
theorem QI{b:Nat}{v:AV}{st':St}:∀ {es:List (AV× AV× Nat)} {ms:List MapEntry},fS E es ms->vQ b st es=some (v,st')->st'=st/\∃ m,ms.find? (fun e=>e.born==b)=some m/\Conc E v (.tuple #[m.key,m.val])
 |[],_,_,h=>by cases h
 |(k,x,n)::es,[],hc,_=>hc.elim
 |(k,x,n)::es,m::ms,⟨hm,ht⟩,h=>by
  have hborn:m.born=n:=hm.2.2;unfold vQ at h;cases hb:Y4 n b with
  |true =>
   rw[hb]at h;cases h;have:(m.born==b)=true:=by simp_all
   exact⟨rfl,m,by grind,.tu _ [m.key,m.val] (.cons _ _ _ _ hm.1 (.cons _ _ _ _ hm.2.1 .nil))⟩
  |false =>
   rw[hb]at h;have:(m.born==b)=false:=by rw[hborn,beq_eq_false_iff_ne];rintro rfl;simp at hb
   obtain⟨h1,m',h2,h3⟩:=QI ht h;exact⟨h1,m',by rw[List.find?_cons_of_neg (by simp[this])];exact h2,h3⟩
theorem Vx(h:Rel E w.heap st)(hr:tm st x=some (v,st'))(hx:Conc E x u):
  st'=st/\∃ z,(V8 u).run P w=.ok z w/\Conc E v z:=by
 unfold tm at hr;split at hr
 ·cases hx;rename_i B hB;split at hr
  ·rename_i m since seen last hg;split at hr
   ·rename_i es clock hgm;obtain⟨B',hB',hR,ha⟩:=Rel.row h hg (fun _ _ e=>by grind);rw[hB]at hB';cases hB';obtain⟨hd,mm,hw,Bm,hBm,rfl⟩:=hR;obtain⟨Bm',ents,hBm',hwm,hc,_⟩:=Rel.mp h hgm;rw[hBm]at hBm';cases hBm';have he:(V8 (.pointer (some ⟨B.b,0+B.d,none⟩))).run P w=(V8 (.pointer (some ⟨B.b,0,none⟩))).run P w:=by grind
    unfold Dx at hr;split at hr
    ·rename_i b hb;obtain⟨hcl,hr'⟩:=eY hr;rw[bu,decide_eq_true_eq]at hcl;subst hcl;obtain⟨h1,me,h2,h3⟩:=QI hc hr';refine⟨h1,_,?_,h3⟩;rw[he];have hbk:seen.toArray.back? = some b:=by
      rw[List.back?_toArray,<-OZ];exact hb
     have hfd:ents.find? (fun e=>e.born==b)=some me:=by rw[<-Array.find?_toList];exact h2
     unfold V8;simp[oI hw (fun _ _ _ e=>by cases e),hbk,oI hwm (fun _ _ _ e=>by cases e),hfd]
    grind
   grind
  grind
 grind
theorem JL(h:nth n st x=some (v,st'))(hx:Conc E x u):st'=st/\∃ z,(I3 u n).run P w=.ok z w/\Conc E v z:=by
 unfold nth at h;split at h
 ·obtain⟨h1,h2⟩:=kH h;cases hx;rename_i vs hc;obtain⟨z,g1,g2⟩:=hc.get n v h1;simp_all[I3]
 grind
theorem Ym{a:Bool}{x:Option α}{y:α}(h:(@Bool.rec (fun _=>Option α) x none a)=some y):a=false/\x=some y:=by
 cases a with
 |false=>grind
 |true=>grind
theorem LV{n:Option Nat}(h:int64 st n=some (v,st')):st'=st/\∃ k,n=some k/\v=.i .i64 (Q0 k):=by
 cases n with
 |none=>cases h
 |some k=>cases h;grind
theorem QJ(h:Rel E w.heap st)(hl:sg P st ts x=some (v,st'))(hx:Conc E x u)(ty:TypeId):
  st'=st/\∃ z,(Y9 ts.toArray ty #[u]).run P w=.ok z w/\Conc E v z:=by
 unfold sg at hl;split at hl
 ·split at hl
  ·rename_i hu;obtain⟨ht,hl⟩:=eY hl;obtain⟨rfl,k,hk,rfl⟩:=LV hl;cases x<;>simp[lH]at ht<;>first|(cases ht)|skip
   cases hx;cases hk;refine⟨rfl,_,?_,.i .i64 _⟩;simp[Y9,bQ hu,goInt]
  ·rename_i e hu;obtain⟨ht,hl⟩:=Ym hl;obtain⟨rfl,k,hk,rfl⟩:=LV hl;refine⟨rfl,.int .i64 k,?_,.i .i64 _⟩;cases hx<;>first|(cases hk;done)|(cases ht)|skip
   all_goals (cases hk;simp[Y9,bQ hu,goInt])
  grind
 grind
theorem acn{r:List TypeId}(he:ez P t=some e)(hl:AG st x=some (v,st'))(hx:Conc E x u)(ty:TypeId):
  st'=st/\∃ z,(W8 (t::r).toArray ty #[u]).run P w=.ok z w/\Conc E v z:=by
 have hu:=qi he;unfold AG at hl;split at hl
 ·cases hl;cases hx;rename_i c a hn hh;exact⟨rfl,.int .i64 c,by simp[W8,bQ hu,goInt],.i .i64 _⟩
 ·cases hl;cases hx;exact⟨rfl,.int .i64 0,by simp[W8,bQ hu,goInt],.i .i64 _⟩
 grind
theorem ZE(hl:yX P st ts as=some (v,st'))(hx:aP E as us)(ts':Array TypeId)(ty:TypeId):
  st'=st/\∃ z,(I4 ts' ty us.toArray).run P w=.ok z w/\Conc E v z:=by
 unfold yX at hl;split at hl
 ·cases hl;rename_i k a k' b;cases hx with|cons _ _ u us h t =>
  cases t with|cons _ _ u' us' h' t' =>
  cases t';cases h;cases h';refine⟨rfl,.int k (if b > a then b else a),by simp[I4,Builtin.max2],?_⟩;have:(@Bool.rec (fun _=>Int) a b (oe a b))=if b > a then b else a:=by rw[pH];by_cases hh:a<b<;>simp[hh]
  rw[this];exact .i k _
 grind
theorem NY(z:Array Value)(n:Nat):(J9 z n).toList=rep n z.toList:=by apply V7;grind[FX,J9,wT]
theorem XH(h:Rel E w.heap st){k:IntKind}(ha:Cp P st n ts=some (v,st'))(hn:st'.next<=E.top)(ty:TypeId):
  ∃ E' w' cv,(Q1 ts.toArray ty #[.slice none 0 0,.int k (Q0 n)]).run P w=.ok cv w'/\bt E E' w w' st st'/\Conc E' v cv:=by
 unfold Cp at ha;split at ha
 ·rename_i t x r;cases he:ez P t with
  |none=>rw[he]at ha;cases ha
  |some e =>
   rw[he]at ha;simp[Dd]at ha;obtain⟨hb,ha⟩:=eY ha;simp only[Z6]at hb;obtain⟨⟨hx,hi⟩,hsm⟩:=hb;have hsm:=Q6 hsm;have hu:=qi he;obtain⟨kk,hk⟩:∃ kk,P.underlying x=some (.int kk):=by grind[xQ]
   obtain⟨i,dd,hinf,hdd⟩:=CH hi;have hby:nR P e=i.bytes:=by simp[nR,hinf]
   have hw:W9.wrap (Q0 n)=Q0 n:=IntWalk.i64_in _ ⟨by grind,by grind⟩;have hw':W9.wrap (n:Int)=(n:Int):=hw;by_cases h0:n=0
   ·rw[bu,decide_eq_true h0]at ha;cases ha;subst h0;have hr:(Q1 (t::x::r).toArray ty #[.slice none 0 0,.int k (Q0 0)]).run P w=.ok (.slice none 0 0) w:=by
     have hw0:W9.wrap 0=0:=hw;simp[Q1,bQ hu,bQ hk,gU hi,wP hinf,asInt,asIntOf,hw0]
    exact⟨E,w,_,hr,.refl h,.sn⟩
   ·rw[bu,decide_eq_false h0]at ha;simp only at ha;cases hz:bm P e with
    |none=>rw[hz]at ha;cases ha
    |some l =>
     rw[hz]at ha;simp[Cl]at ha;obtain⟨hfit,ha⟩:=eY ha;cases ha;obtain⟨z,g1,g2,g3,g4⟩:=JW hfit;obtain⟨z',q1,q2,q3,q4⟩:=rG hz;have hzz:z'=z:=by simp_all
     subst hzz;rw[hby]at g3 g4;have hcap:Z4 n 0=n:=by grind[Z4]
     have hbytes:¬ n*i.bytes > 2 ^ 48:=by grind
     have hneg:¬ (n:Int)<0:=by omega
     have hmax':¬ (9223372036854775807:Int)<(n:Int):=by omega
     have hbytes':¬ (281474976710656:Int)<(n:Int)*(i.bytes:Int):=by grind
     have hq:(U9 n 0 e).forced=false:=rfl;have hb0:¬ i.bytes=0:=by omega
     have hnew:(if n*aD P e=0 then(#[]:Array Value) else J9 z'.cells n)=(rep n z'.cells.toList).toArray:=by grind[wT,NY]
     let c:=n+w.tape w.drawn (.appendCap n 0 e) % (2 ^ 63-n)
     have hr:(Q1 (t::x::r).toArray ty #[.slice none 0 0,.int k (Q0 n)]).run P w=.ok (.slice (some ⟨w.heap.size,0,none⟩) n c)
       (w.drew.alloc (.cells ((rep n z'.cells.toList).toArray++J9 z'.cells (c-n)) e)):=by
      rw[<-hnew];by_cases hsz:n*aD P e=0
      ·have hsz':=M8.1 hsz;simp[Q1,bQ hu,bQ hk,gU hi,wP hinf,asInt,asIntOf,hw',hneg,hmax',hbytes',h0,hcap,hbytes,hq,V4,g1,newRow,hb0,Q2,hsz,c]
      ·simp[Q1,bQ hu,bQ hk,gU hi,wP hinf,asInt,asIntOf,hw',hneg,hmax',hbytes',h0,hcap,hbytes,hq,V4,g1,newRow,hb0,Q2,hsz,c]
     obtain⟨E',p1,p2,-⟩:=H1 h (show st.next<E.top from hn) (newCap:=c) e (DZ q2 n) (by rw[wT,Array.length_toList,g2])
      (by rw[KU,g2]) (by omega)
     exact⟨E',_,_,hr,⟨p1,rfl,rfl⟩,p2⟩
 grind
theorem aag{r:AV× St}(h:vA P st ts as=some r):∃ x,as=[x]:=by unfold vA at h;grind
theorem XQ(h:Rel E w.heap st)(hc:vA P st ts [x]=some (v,st'))(hx:Conc E x u)(ty:TypeId):
  ∃ w',(V1 ts.toArray ty #[u]).run P w=.ok (.tuple #[]) w'/\bt E E w w' st st'/\v=.tu []:=by
 unfold vA at hc;split at hc
 ·rename_i t r x' heq;cases heq;cases he:ez P t with
  |none=>grind
  |some e =>
   rw[he] at hc;have hu:=qi he;have key:∀ (a:Addr) (n c:Nat) {r0 o:Nat},(@Bool.rec (fun _=>aR) (yz st r0 o n (bm P e)) (some (.tu [],st)) (Y4 n 0))=some (v,st')→(n≠0→∃ B,E.phi r0=some B∧a=⟨B.b,o+B.d,none⟩) →
     ∃ w',(V1 (t::r).toArray ty #[.slice (some a) n c]).run P w=.ok (.tuple #[]) w'/\bt E E w w' st st'/\v=.tu []:=by
    intro a n c r0 o hc ha;cases n with
    |zero =>cases hc;exact⟨w,by simp[V1,bQ hu],.refl h,rfl⟩
    |succ n =>
     have hc:yz st r0 o (n+1) (bm P e)=some (v,st'):=hc;unfold yz at hc;split at hc
     ·rename_i l hz;obtain⟨z,g1,g2,g3,g4⟩:=rG hz;unfold DK at hc;split at hc
      ·rename_i st1 hw;cases hc;obtain⟨B,cs,t0,fz,hB,hH,hfz,hroom,hone,hst⟩:=Step.wt h hw (DZ g2 (n+1));have hs:=yv P B.b (o+B.d) t0 fz (rep (n+1) z.cells.toList) 0 cs w hH hfz.not (by grind) hone;refine⟨_,?_,.of hst,rfl⟩;simp_all[V1,bQ,NY]
      grind
     grind
   cases hx<;>first|(cases hc;done)|skip
   ·rename_i r0 o n z c a hle hh;exact key a n c hc fun hn=>hh.resolve_left (by omega)
   ·rename_i r0 o n z c a hle hh;obtain⟨B,hB,hcc,-⟩:=hh;exact key a n c hc fun hn=>⟨B,hB,hcc.resolve_left (by omega)⟩
   ·cases hc;exact⟨w,by simp[V1,bQ hu],.refl h,rfl⟩
 grind
theorem UC(h:Rel E w.heap st){src dst:TypeId}(hc:conv P st src dst x=some (v,st'))(hx:Conc E x u)(hn:st'.next<=E.top):
  ∃ E' w' z,(convert src dst u).run P w=.ok z w'/\bt E E' w w' st st'/\Conc E' v z:=by
 unfold conv at hc
 split at hc
 ·rename_i d k k' n hs hd;cases hc;cases hx;refine⟨E,w,.int k (k.wrap n),?_,.refl h,?_⟩
  ·simp_all[convert,bQ,Conv.intToInt]
  ·rw[xg];exact .i k _
 grind
