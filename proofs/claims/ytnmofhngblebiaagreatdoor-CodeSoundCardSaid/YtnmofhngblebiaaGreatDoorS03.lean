/- A part of the proof. -/
import Derived.Test.YtnmofhngblebiaaGreatDoorS02
import Derived.Lib.Builder
import Derived.Lib.ConvBytes
import Derived.Laws.BytesArg
import Derived.Lib.UnsafeStr
import Derived.AtR
import Derived.Conc.LoneSelect
import Derived.Lib.MakeNoZero
open Option renaming some->So,none->No
open Bool renaming true->Tt,false->Ff
open Nat renaming le_refl->Q0,le_trans->Q5,eq_of_beq_eq_true->Q7,le_succ->J3,le_of_ble_eq_true->J5,blt_eq->J6,mod_eq_of_lt->J8,min_le_left->Z5,le_succ_of_le->K8
open Go.Sem renaming run_bind->Q1,run_pure->Q6
open Go.Result renaming andThen_ok->Q2
open Go.Steps renaming one->Q3
open Bool renaming and_eq_true->Q4
open Option renaming map_none->Q8
open Go.Oper renaming semAt_eq->Q9
open Array renaming getD_eq_getD_getElem?->J1,getElem?_eq_some_iff->J9,toList_inj->Z0,getElem?_eq_none->Z9
open List renaming getElem?_cons_zero->J4,range'_succ->Z4,getElem?_toArray->Z6,getElem?_cons_succ->Z7,map_map->Z8,map_cons->V1,drop_zero->V3,length_map->V4,find?_cons->V6,mem_cons_of_mem->V7,mem_append_left->V8,mem_filterMap->V9,mem_append_right->X0
open Go.Frame renaming finish_atR->Z3
open Go.Lib renaming run_unsafeSliceData_row->V0,run_unsafeString_none->V2
open Option.some renaming injEq->X4
noncomputable section
namespace Go.Ev
variable {E E' E0:Env}{H H' H0:Array Obj}{P:Program}{S:Self}{X' Y st st' st1:St}{a:Act}{az l:List AV}{b i n n0 nt r z:Nat}{bs rest:List Nat}{cs ks:List Frame}{d:Option Tmp}{ds:List Deferred}{dst e src:TypeId}{f:FuncId}{fc:Frame}{fn:Func}{fz:Nat×Nat}{k:List Item}{m:Option kW}{m1:Machine}{o:Oper}{ops:Array Oper}{row:Row}{s v x:AV}{t t':Tr AV}{ts:List TypeId}{u:Value}{us:List Value}{w w':World}{y:aD}{α:Type}{ρ:Operand->Value}
theorem PQ(h:nth n st x=So (v,st'))(hx:Conc E x u):st'=st/\∃z,(Instr.extract u n).run P w=.ok z w/\Conc E v z:=by
 unfold nth at h;split at h
 ·have⟨h1,h2⟩:=ke h;cases hx;rename_i vs hc;have⟨z,g1,g2⟩:=hc.get n v h1;simp_all[Instr.extract]
 grind
theorem UO{a:Bool}{x:Option α}{y:α}(h:(@Bool.rec (λ_=>Option α) x No a)=So y):a=Ff/\x=So y:=by
 cases a with
 |false=>grind
 |true=>grind
theorem Ot{n:Option Nat}(h:int64 st n=So (v,st')):st'=st/\∃k,n=So k/\v=.i .i64 (Int.ofNat k):=by
 cases n with
 |none=>cases h
 |some k=>cases h;grind
theorem OV(h:Rel E w.heap st)(hl:qQ P st ts x=So (v,st'))(hx:Conc E x u)(ty:TypeId):
  st'=st/\∃z,(Builtin.len_ ts.toArray ty #[u]).run P w=.ok z w/\Conc E v z:=by
 unfold qQ at hl;split at hl
 ·split at hl
  ·rename_i hu;have⟨ht,hl⟩:=dm hl;obtain⟨rfl,k,hk,rfl⟩:=Ot hl;cases x<;>simp[kO]at ht<;>first|(cases ht)|skip
   cases hx;cases hk;refine⟨rfl,_,?_,.i .i64 _⟩;simp[Builtin.len_,bA hu,goInt]
  ·rename_i e hu;have⟨ht,hl⟩:=UO hl;obtain⟨rfl,k,hk,rfl⟩:=Ot hl;refine⟨rfl,.int .i64 k,?_,.i .i64 _⟩;cases hx<;>first|(cases hk;done)|(cases ht)|skip
   all_goals (cases hk;simp[Builtin.len_,bA hu,goInt])
  grind
 grind
theorem Vq{t:TypeId}{r:List TypeId}(he:dO P t=So e)(hl:CW st x=So (v,st'))(hx:Conc E x u)(ty:TypeId):
  st'=st/\∃z,(Builtin.cap_ (t::r).toArray ty #[u]).run P w=.ok z w/\Conc E v z:=by
 have hu:=nH he;unfold CW at hl;split at hl
 ·cases hl;cases hx;rename_i c a hn hh;exact⟨rfl,.int .i64 c,by simp[Builtin.cap_,bA hu,goInt],.i .i64 _⟩
 ·cases hl;cases hx;exact⟨rfl,.int .i64 0,by simp[Builtin.cap_,bA hu,goInt],.i .i64 _⟩
 grind
theorem Zu(hl:x7 P st ts az=So (v,st'))(hx:aH E az us)(ts':Array TypeId)(ty:TypeId):
  st'=st/\∃z,(Builtin.max_ ts' ty us.toArray).run P w=.ok z w/\Conc E v z:=by
 unfold x7 at hl;split at hl
 ·cases hl;rename_i k a k' b;cases hx with|cons _ _ u us h t=>
  cases t with|cons _ _ u' us' h' t'=>
  cases t';cases h;cases h';refine⟨rfl,.int k (if b > a then b else a),by simp[Builtin.max_,Builtin.max2],?_⟩;have:(@Bool.rec (λ_=>Int) a b (lH a b))=if b > a then b else a:=by rw[nM];by_cases hh:a<b<;>simp[hh]
  rw[this];exact .i k _
 grind
theorem aaO(l:List α)(o:Nat):aW l o ([]:List α)=l:=by
 induction l generalizing o with
 |nil=>cases o<;>simp[aW,over]
 |cons x l ih=>cases o<;>simp[aW,over,ih]
theorem acb{o:Obj}(h:H[b]? = So o):H.setIfInBounds b o=H:=by grind
theorem Xq{m:Nat}(hf:firstCells st z n x=So l)(hm:lenOf x=So m)(hn:n<=m):l.length=n*z:=by
 cases x<;>simp only[firstCells]at hf<;>first|(cases hf)|skip
 ·have⟨hz,hf⟩:=dH hf;rw[bh,decide_eq_true_eq]at hz;cases hm;grind
 ·by_cases h0:n=0
  ·simp_all
  ·rw[bh,decide_eq_false h0]at hf;simp only[rd]at hf;split at hf
   ·exact lW hf
   grind
 ·have⟨h0,hf⟩:=dH hf;simp_all
 ·exact lW hf
theorem VT(h:Rel E w.heap st){d:AV}{ud ux:Value}(hc:x6 P st ts [d,x]=So (v,st'))(hd:Conc E d ud)(hx:Conc E x ux)(ty:TypeId):
  ∃w' z,(Builtin.copy_ ts.toArray ty #[ud,ux]).run P w=.ok z w'/\aR E E w w' st st'/\Conc E v z:=by
 cases ts with
 |nil=>cases hc
 |cons t r=>
  simp only[x6]at hc;cases he:dO P t with
  |none=>grind
  |some e=>
   cases hl:lenOf x with
   |none=>grind
   |some n=>
    rw[he,hl]at hc;simp only at hc;have⟨hi,hc⟩:=dm hc;have hu:=nH he;have hlen:=OT (P:=P) (w:=w) hl hx;unfold copyV at hc;split at hc
    ·rename_i r0 o m z' c _;unfold Ho at hc;split at hc
     ·rename_i l hf;have⟨hz,hc2⟩:=dm hc;clear hc;rw[bh,decide_eq_true_eq]at hz;subst hz;split at hc2
      ·rename_i st1 hw;cases hc2;have⟨us,hus,hcl⟩:=yj (P:=P) h hf hx hl (Z5 n m);have⟨B,cs,t0,fz,hB,hH,hfz,hroom,hone,hst⟩:=Step.wt h hw hcl;have hul:us.length=min n m*aq P e:=by rw[<-hcl.length];exact Xq hf hl (Z5 n m)
       have hmin:Nat.min n m=min n m:=rfl;have key:∀(a:Addr) (k:Nat),(us=[]\/a=⟨B.b,o+B.d,No⟩)->(Builtin.copy_ (t::r).toArray ty #[.slice (So a) m k,ux]).run P w=.ok (.int .i64 ((min n m:Nat):Int)) {w with heap:=w.heap.setIfInBounds B.b (.cells (aW cs (o+B.d) us).toArray t0 fz)}:=by
        intro a k ha;have hs:(storeCells a us).run P w=.ok () {w with heap:=w.heap.setIfInBounds B.b (.cells (aW cs (o+B.d) us).toArray t0 fz)}:=by
         rcases ha with rfl|rfl
         ·rw[aaO,acb hH];rfl
         ·have:=xg P B.b (o+B.d) t0 fz us 0 cs w hH hfz.not (by grind) hone;grind
        simp only[Builtin.copy_,Z6,J4,Z7,Q1,bA hu,Q2,hlen,hmin,fR hi,hus,hs,Q6];rfl
       have hus0:m=0->us=[]:=by rintro rfl;simp_all
       cases hd with
       |slk _ _ _ _ c' a hn hh=>refine⟨_,_,key a c' ?_,.of hst,.i .i64 _⟩;grind
       |slu _ _ _ _ c' a hn hh=>refine⟨_,_,key a c' ?_,.of hst,.i .i64 _⟩;grind
      grind
     grind
    ·cases hc;cases hd;have hus:∃us:Array Value,(Builtin.firstCells (aq P e) 0 ux).run P w=.ok us w:=by
      cases hx<;>first|(cases hl;done)|skip
      all_goals (simp only[Builtin.firstCells,Nat.zero_mul];exact⟨_,rfl⟩)
     have⟨us,hus⟩:=hus;refine⟨w,.int .i64 ((0:Nat):Int),?_,.refl h,.i .i64 _⟩;simp only[Builtin.copy_,Z6,J4,Z7,Q1,bA hu,Q2,hlen,Nat.min_zero,fR hi,hus,Q6];rfl
    grind
theorem Ta(z:Array Value)(n:Nat):(Builtin.zeroCells z n).toList=rep n z.toList:=by apply List.ext_getElem?;grind[JD,Builtin.zeroCells,yS]
theorem Uh(h:Rel E w.heap st){k:IntKind}(ha:CC P st n ts=So (v,st'))(hn:st'.next<=E.top)(ty:TypeId):
  ∃E' w' cv,(Builtin.append_ ts.toArray ty #[.slice No 0 0,.int k (Int.ofNat n)]).run P w=.ok cv w'/\aR E E' w w' st st'/\Conc E' v cv:=by
 unfold CC at ha;split at ha
 ·rename_i t x r;cases he:dO P t with
  |none=>rw[he]at ha;cases ha
  |some e=>
   rw[he]at ha;simp[GA]at ha;obtain⟨hb,ha⟩:=dm ha;simp only[Q4]at hb;obtain⟨⟨hx,hi⟩,hsm⟩:=hb;have hsm:=J5 hsm;have hu:=nH he;obtain⟨kk,hk⟩:∃kk,P.underlying x=So (.int kk):=by grind[Ou]
   obtain⟨i,dd,hinf,hdd⟩:=wJ hi;have hby:jZ P e=i.bytes:=by simp[jZ,hinf]
   have hw:IntKind.i64.wrap (Int.ofNat n)=Int.ofNat n:=IntWalk.i64_in _ ⟨by grind,by grind⟩;have hw':IntKind.i64.wrap (n:Int)=(n:Int):=hw;by_cases h0:n=0
   ·rw[bh,decide_eq_true h0]at ha;cases ha;subst h0;have hr:(Builtin.append_ (t::x::r).toArray ty #[.slice No 0 0,.int k (Int.ofNat 0)]).run P w=.ok (.slice No 0 0) w:=by
     have hw0:IntKind.i64.wrap 0=0:=hw;simp[Builtin.append_,bA hu,bA hk,fR hi,vI hinf,asInt,asIntOf,hw0]
    exact⟨E,w,_,hr,.refl h,.sn⟩
   ·rw[bh,decide_eq_false h0]at ha;simp only at ha;cases hz:bt P e with
    |none=>rw[hz]at ha;cases ha
    |some l=>
     rw[hz]at ha;simp[Gz]at ha;obtain⟨hfit,ha⟩:=dm ha;cases ha;obtain⟨z,g1,g2,g3,g4⟩:=Nx hfit;obtain⟨z',q1,q2,q3,q4⟩:=pg hz;have hzz:z'=z:=by simp_all
     subst hzz;rw[hby]at g3 g4;have hcap:Builtin.nextslicecap n 0=n:=by grind[Builtin.nextslicecap]
     have hbytes:¬n*i.bytes > 2 ^ 48:=by grind
     have hneg:¬(n:Int)<0:=by omega
     have hmax':¬(9223372036854775807:Int)<(n:Int):=by omega
     have hbytes':¬(281474976710656:Int)<(n:Int)*(i.bytes:Int):=by grind
     have hq:(Question.appendCap n 0 e).forced=false:=rfl;have hb0:¬i.bytes=0:=by omega
     have hnew:(if n*aq P e=0 then(#[]:Array Value) else Builtin.zeroCells z'.cells n)=(rep n z'.cells.toList).toArray:=by grind[yS,Ta]
     let c:=n+w.tape w.drawn (.appendCap n 0 e) % (2 ^ 63-n)
     have hr:(Builtin.append_ (t::x::r).toArray ty #[.slice No 0 0,.int k (Int.ofNat n)]).run P w=.ok (.slice (So ⟨w.heap.size,0,No⟩) n c)
       (w.drew.alloc (.cells ((rep n z'.cells.toList).toArray++Builtin.zeroCells z'.cells (c-n)) e)):=by
      rw[<-hnew];by_cases hsz:n*aq P e=0
      ·have hsz':=Nat.mul_eq_zero.1 hsz;simp[Builtin.append_,bA hu,bA hk,fR hi,vI hinf,asInt,asIntOf,hw',hneg,hmax',hbytes',h0,hcap,hbytes,hq,Question.cut,g1,newRow,hb0,Builtin.firstCells,hsz,c]
      ·simp[Builtin.append_,bA hu,bA hk,fR hi,vI hinf,asInt,asIntOf,hw',hneg,hmax',hbytes',h0,hcap,hbytes,hq,Question.cut,g1,newRow,hb0,Builtin.firstCells,hsz,c]
     obtain⟨E',p1,p2,-⟩:=Ia h (show st.next<E.top from hn) (newCap:=c) e (BC q2 n) (by rw[yS,Array.length_toList,g2])
      (by rw[Tb,g2]) (by omega)
     exact⟨E',_,_,hr,⟨p1,rfl,rfl⟩,p2⟩
 grind
theorem Uo{r:AV×St}(h:uI P st ts az=So r):∃x,az=[x]:=by unfold uI at h;grind
theorem VB(h:Rel E w.heap st)(hc:uI P st ts [x]=So (v,st'))(hx:Conc E x u)(ty:TypeId):
  ∃w',(Builtin.clear_ ts.toArray ty #[u]).run P w=.ok (.tuple #[]) w'/\aR E E w w' st st'/\v=.tu []:=by
 unfold uI at hc;split at hc
 ·rename_i t r x' heq;cases heq;cases he:dO P t with
  |none=>grind
  |some e=>
   rw[he] at hc;have hu:=nH he;have key:∀(a:Addr) (n c:Nat) {r0 o:Nat},(@Bool.rec (λ_=>aD) (x9 st r0 o n (bt P e)) (So (.tu [],st)) (Nat.beq n 0))=So (v,st')→(n≠0→∃B,E.phi r0=So B∧a=⟨B.b,o+B.d,No⟩) →
     ∃w',(Builtin.clear_ (t::r).toArray ty #[.slice (So a) n c]).run P w=.ok (.tuple #[]) w'/\aR E E w w' st st'/\v=.tu []:=by
    intro a n c r0 o hc ha;cases n with
    |zero=>cases hc;exact⟨w,by simp[Builtin.clear_,bA hu],.refl h,rfl⟩
    |succ n=>
     have hc:x9 st r0 o (n+1) (bt P e)=So (v,st'):=hc;unfold x9 at hc;split at hc
     ·rename_i l hz;obtain⟨z,g1,g2,g3,g4⟩:=pg hz;unfold EC at hc;split at hc
      ·rename_i st1 hw;cases hc;obtain⟨B,cs,t0,fz,hB,hH,hfz,hroom,hone,hst⟩:=Step.wt h hw (BC g2 (n+1));have hs:=xg P B.b (o+B.d) t0 fz (rep (n+1) z.cells.toList) 0 cs w hH hfz.not (by grind) hone;refine⟨_,?_,.of hst,rfl⟩;simp_all[Builtin.clear_,bA,Ta]
      grind
     grind
   cases hx<;>first|(cases hc;done)|skip
   ·rename_i r0 o n z c a hle hh;exact key a n c hc λhn=>hh.resolve_left (by omega)
   ·rename_i r0 o n z c a hle hh;obtain⟨B,hB,hcc,-⟩:=hh;exact key a n c hc λhn=>⟨B,hB,hcc.resolve_left (by omega)⟩
   ·cases hc;exact⟨w,by simp[Builtin.clear_,bA hu],.refl h,rfl⟩
 grind
theorem Mn:∀{l:List AV}{bs:List Nat}{us:List Value},aO byteOf l=So bs->aH E l us->us=bs.map (λn=>.int .u8 (Int.ofNat n))/\∀b∈bs,b<256
 |[],bs,us,h,hc=>by cases h;cases hc;grind
 |v::l,bs,us,h,hc=>by
  cases hc with
  |cons _ _ u us hv ht=>
  simp only[aO]at h;cases hb:byteOf v with
  |none=>grind
  |some n=>
   rw[hb]at h;cases hp:aO byteOf l with
   |none=>grind
   |some r=>
    rw[hp]at h;cases h;have⟨this,hall⟩:=Mn hp ht;unfold byteOf at hb;split at hb
    ·have⟨h1,h2⟩:=dH hb;cases hv;simp_all
    grind
def zj(bs:List Nat):ByteArray:=⟨(bs.map λn=>UInt8.ofNat n).toArray⟩
theorem Kn(h:∀b∈bs,b<256):Conc E (.s bs) (.string (zj bs)):=by
 have:(zj bs).data.toList.map UInt8.toNat=bs:=by
  simp only[zj,Z8]
  conv=>rhs;rw[<-List.map_id bs]
  apply List.map_congr_left;simp_all
 have hc:=Conc.s (E:=E) (zj bs);grind
theorem Vi(h:Rel E w.heap st)(hs:CS st x=So (v,st'))(hx:Conc E x u)(hne:∀l,x≠.s l):
  st'=st/\(∃a l c,u=.slice a l c)/\∃z,(Conv.bytesToString u).run P w=.ok z w/\Conc E v z:=by
 unfold CS at hs;split at hs
 ·cases hs;cases hx;refine⟨rfl,⟨_,_,_,rfl⟩,.string .empty,rfl,?_⟩;exact Kn (E:=E) (bs:=[]) (by simp)
 ·split at hs
  ·rename_i n hl;unfold strOf at hs;split at hs
   ·rename_i l hf;split at hs
    ·rename_i bs hp;cases hs;have⟨us,h1,h2⟩:=yj (P:=P) h hf hx hl (Q0 _);obtain⟨rfl,hall⟩:=Mn hp h2;have key:∀a c,u=.slice (So a) n c->(∃a l c,u=.slice a l c)/\∃z,(Conv.bytesToString u).run P w=.ok z w/\Conc E (.s bs) z:=by
      rintro a c rfl;simp only[Builtin.firstCells,Nat.mul_one]at h1;have:=run_bytesToString (P:=P) w a n c (bs.map Int.ofNat) (by simp_all);refine⟨⟨_,_,_,rfl⟩,_,this,?_⟩;rw[foldl_push_bytes];have e:(⟨ByteArray.empty.data++((bs.map Int.ofNat).map λn=>UInt8.ofNat n.toNat).toArray⟩:ByteArray)=zj bs:=by have h0:ByteArray.empty.data = #[]:=rfl;rw[h0,Array.empty_append,Z8];rfl
      rw[e];exact Kn hall
     cases hx<;>first|(done)|(exact absurd rfl (hne _))|skip
     all_goals (cases hl;try exact⟨rfl,key _ _ rfl⟩)
     grind
    grind
   grind
  grind
theorem Vh(e:TypeId)(s:ByteArray):(Lib.bytesWorld w e s).heap=w.heap.push (.cells (Lib.bytesCells w e s) e ((Lib.bytesCells w e s).size,(Lib.bytesCells w e s).size+1)):=by
 apply Array.ext_getElem?;intro j;rw[Array.getElem?_push];by_cases hj:j=w.heap.size
 ·subst hj;rw[Lib.bytesWorld_at_new,if_pos rfl]
 ·rw[if_neg hj];rcases Nat.lt_or_ge j w.heap.size with hh|hh
  ·exact Lib.bytesWorld_at_old w e s j hh
  ·rw[Z9 (by rw[Lib.bytesWorld_size];omega),Z9 hh]
theorem Zx{o:Obj}{f:Obj->Obj}(h:H[b]? = So o):H.modify b f=H.setIfInBounds b (f o):=by grind
def Aw(n:Nat)(fz:Nat×Nat):Nat×Nat:=if fz.1==fz.2 then(n,n+1) else(min fz.1 n,max fz.2 (n+1))
theorem XJ(h:my n fz):my n (Aw n fz):=by
 unfold Aw;rcases h with h|h
 ·rw[if_pos (by grind)];exact .inr (Q0 _)
 ·split
  ·exact .inr (Q0 _)
  ·exact .inr (by grind)
theorem run_mark{o:Nat}{cs:Array Value}{t:TypeId}(h:w.heap[b]? = So (.cells cs t fz)):
  (markStringish ⟨b,o,No⟩).run P w=.ok () {w with heap:=w.heap.setIfInBounds b (.cells cs t (Aw cs.size fz))}:=by
 have hs:w.shape? b=So (t,cs.size):=by simp[World.shape?,h]
 have hf:w.freeze ⟨b,cs.size,No⟩ 1={w with heap:=w.heap.setIfInBounds b (.cells cs t (Aw cs.size fz))}:=by unfold World.freeze;rw[if_neg (by decide),Zx h];rfl
 simp[markStringish,hs,hf]
theorem Yy(h:DX P e=Tt):P.underlying e=So (.int .u8):=by unfold DX at h;grind
theorem T8(h:Gq st r=Tt):∃l g al,st.ce r=So (l,g,al):=by unfold Gq at h;grind
theorem VL(h:Rel E w.heap st){e':TypeId}(hs:P.underlying src=So (.slice e'))(hd:P.underlying dst=So (.slice e))(hc:Da P st src dst e x=So (v,st'))(hx:Conc E x u):
  ∃E' w' z,(convert src dst u).run P w=.ok z w'/\aR E E' w w' st st'/\Conc E' v z:=by
 unfold Da at hc;split at hc
 ·rename_i r o n z c;have⟨hr,hc⟩:=dm hc;cases hc;simp only[Q4,Nat.beq_eq,J6]at hr;have⟨hsd,h8,hcp,hal⟩:=hr;have he:=Yy h8;have⟨l,g,al,hce⟩:=T8 hal;have⟨B,cs,t,fz,hB,hH,hfz,hn,hdl,hC⟩:=h.cells hce;obtain⟨ha,-,-,-⟩:=St.lA hce;cases hx with
  |slk _ _ _ _ _ a hle hcase=>
   rcases hcase with rfl|⟨B',hB',rfl⟩
   ·omega
   ·rw[hB]at hB';cases hB';refine⟨E,{w with heap:=w.heap.setIfInBounds B.b (.cells cs.toArray t (Aw cs.toArray.size fz))},.slice (So ⟨B.b,o+B.d,No⟩) n c,?_,⟨?_,rfl,rfl⟩,.slk _ _ _ _ _ _ hle (.inr ⟨B,hB,rfl⟩)⟩
    ·have hm:=run_mark (P:=P) (w:=w) (o:=o+B.d) hH;simp[convert,bA hd,bA he,hsd,hm]
    ·exact Step.XI h hH ⟨r,_,B,ha,hB,rfl⟩ (h.own r _ B ha hB) (λhz=>XJ hz)
 grind
theorem PU{o:Nat}(h:Ez st r o=Tt):∃l g al,st.ce r=So (l,g,al)/\o<l.length:=by
 unfold Ez at h;split at h
 ·rename_i l g al hp;exact⟨l,g,al,hp,by simpa[J6]using h⟩
 ·cases h
theorem JO{cs:List Value}{t:TypeId}(h:w.heap[b]? = So (.cells cs.toArray t fz)):w.shape? b=So (t,cs.length):=by simp[World.shape?,h]
theorem Zf(count:Nat)(hc:P.cellsOf e≠0)(hn:1<=count):liesAt P P.depth e count 0 e 1=true:=by have hd:P.depth=(2*(P.types.size+Made.depth)+1)+1:=rfl;rw[hd];simp only[liesAt,Bool.or_eq_true];rw[hd];simp[rowAt,hc,hn,sameLayout]
theorem VM(h:Rel E w.heap st){t:TypeId}{o:Nat}(hs:P.underlying src=So (.pointer t))(hd:P.underlying dst=So .unsafePointer)(hc:Hm P st t r o=So (v,st'))(hx:Conc E (.p r o) u):
  ∃E' w' z,(convert src dst u).run P w=.ok z w'/\aR E E' w w' st st'/\Conc E' v z:=by
 have⟨hb,hc⟩:=dm hc;cases hc;simp only[Q4]at hb;have⟨hi,hz,ho⟩:=hb;have⟨l,g,al,hce,hol⟩:=PU ho;have⟨B,cs,t',fz,hB,hH,hfz,hn,hdl,hC⟩:=h.cells hce;have⟨i,dd,hinf,hdd⟩:=wJ hi;have hj:i.size≠0:=by
  have:aq P t=i.size:=by simp[aq,hinf]
  have hz':0<aq P t:=by simp_all
  omega
 cases hx with
 |p _ _ B' hB'=>rw[hB]at hB';cases hB';exact⟨E,w,_,Lib.run_to_unsafe w ⟨B.b,o+B.d,No⟩ hs hd hinf hj (JO hH) (by grind),.refl h,.p r o B hB⟩
theorem VK(h:Rel E w.heap st){u':TypeId}{o:Nat}(hs:P.underlying src=So .unsafePointer)(hd:P.underlying dst=So (.pointer u'))(hc:Hl P st u' r o=So (v,st'))(hx:Conc E (.p r o) u):
  ∃E' w' z,(convert src dst u).run P w=.ok z w'/\aR E E' w w' st st'/\Conc E' v z:=by
 have⟨hb,hc⟩:=dm hc;cases hc;simp only[Q4]at hb;have⟨hi,ho0,hty,hz,ho⟩:=hb;have⟨l,g,al,hce,hol⟩:=PU ho;have⟨B,cs,t',fz,hB,hH,hfz,hn,hdl,hC⟩:=h.cells hce;have⟨B2,hB2,hd2,cs2,fz2,hH2⟩:=Kq h hty;have htt:t'=u':=by grind
 subst htt;have⟨i,dd,hinf,hdd⟩:=wJ hi;have hz':0<aq P t':=by simp_all
 have ho':o=0:=Q7 ho0;subst ho';have hol':aq P t'-1<l.length:=hol;have hcells:aq P t'=P.cellsOf t':=by unfold aq Program.cellsOf;grind
 cases hx with
 |p _ _ B' hB'=>
  rw[hB]at hB';cases hB';have hoff:(⟨B.b,0+B.d,No⟩:Addr).off=0:=by grind
  refine⟨E,w,_,Lib.run_from_unsafe w ⟨B.b,0+B.d,No⟩ hs hd hinf (JO hH) ?_,.refl h,.p r 0 B hB⟩;rw[hoff];refine Zf _ (by omega) ?_;rw[<-hcells,Nat.le_div_iff_mul_le hz'];omega
theorem VN(h:Rel E w.heap st)(hc:conv P st src dst x=So (v,st'))(hx:Conc E x u)(hn:st'.next<=E.top):
  ∃E' w' z,(convert src dst u).run P w=.ok z w'/\aR E E' w w' st st'/\Conc E' v z:=by
 unfold conv at hc
 split at hc
 ·rename_i d k k' n hs hd;cases hc;cases hx;refine⟨E,w,.int k (k.wrap n),?_,.refl h,?_⟩
  ·simp[convert,bA hs,bA hd,Conv.intToInt]
  ·rw[xJ];exact .i k _
 ·rename_i d l hs hd;cases hc;cases hx;rename_i bs;exact⟨E,w,.string bs,by simp[convert,bA hs,bA hd],.refl h,.s bs⟩
 ·rename_i d k n hs hd;have⟨hr,hc⟩:=dm hc;cases hc;cases hx;simp only[Q4,nM,Bool.not_eq_true',decide_eq_true_eq,decide_eq_false_iff_not]at hr;refine⟨E,w,.string (Utf8.encode n),by simp[convert,bA hs,bA hd,Conv.intToString],.refl h,?_⟩;have hv:Utf8.valid n=true:=by
   unfold Utf8.valid;grind
  have he:Utf8.encode n=zj [n.toNat]:=by unfold Utf8.encode;simp only[hv,if_true];rw[if_pos (by omega)];rfl
  rw[he];exact Kn (by grind)
 ·rename_i e hs hd hns hni;split at hc
  ·rename_i he;obtain⟨rfl,⟨a,l,c,rfl⟩,z,h1,h2⟩:=Vi (P:=P) h hc hx (λl e=>hns l e);exact⟨E,w,z,by rw[run_convert_bytes_string w src dst e a l c hs he hd];grind,.refl h,h2⟩
  grind
 ·rename_i e l hs hd;split at hc
  ·rename_i he;cases hc;cases hx;rename_i bs;have hr:=Lib.run_convert_string_bytes (P:=P) w src dst e bs hs hd he;have hcap:bs.size<=grownCap w bs.size 0 e:=by unfold grownCap Question.cut;grind
   have hsz:(Lib.bytesCells w e bs).size=grownCap w bs.size 0 e:=by have:bs.data.size=bs.size:=rfl;simp[Lib.bytesCells];omega
   have hs:=Step.aj h (show st.next<E.top from hn) ((bs.data.toList.map UInt8.toNat).map λb=>AV.i .u8 (Int.ofNat b)) (Lib.bytesCells w e bs).toList e ((Lib.bytesCells w e bs).size,(Lib.bytesCells w e bs).size+1)
    (.inr (by simp)) (by simp_all) (by
     have:(Lib.bytesCells w e bs).toList.take (((bs.data.toList.map UInt8.toNat).map λb=>AV.i .u8 (Int.ofNat b)).length)=bs.data.toList.map λb=>Value.int .u8 b.toNat:=by simp[Lib.bytesCells]
     rw[this];generalize bs.data.toList=l;induction l with
     |nil=>exact .nil
     |cons b l ih=>exact .cons _ _ _ _ (.i _ _) ih)
   have hphi:(E.bind st.next ⟨w.heap.size,0,(Lib.bytesCells w e bs).toList.length⟩).phi st.next=So ⟨w.heap.size,0,(Lib.bytesCells w e bs).toList.length⟩:=Env.df;have hsl:Conc (E.bind st.next ⟨w.heap.size,0,(Lib.bytesCells w e bs).toList.length⟩) (.sl st.next 0 bs.size 1 No) (.slice (So ⟨w.heap.size,0,No⟩) bs.size (grownCap w bs.size 0 e)):=
    .slu st.next 0 _ 1 (grownCap w bs.size 0 e) _ hcap ⟨_,hphi,.inr (by simp),by grind⟩
   refine⟨E.bind st.next ⟨w.heap.size,0,(Lib.bytesCells w e bs).toList.length⟩,_,_,hr,?_,?_⟩
   ·exact⟨by rw[Vh];simp_all,rfl,rfl⟩
   simp_all
  grind
 ·rename_i hs hd;exact VL h hs hd hc hx
 ·rename_i t r o hs hd;exact VM h hs hd hc hx
 ·rename_i u r o hs hd;exact VK h hs hd hc hx
 grind
def Up(st:St)(r:aD):Prop:=∀v st',r=So (v,st')->st.next<=st'.next
def sQ(st:St)(r:Option St):Prop:=∀st',r=So st'->st.next<=st'.next
theorem bu:Up st none:=λ_ _ h=>by grind
theorem fp:Up st (So (v,st)):=λ_ _ h=>by grind
theorem Ku:Up st (So (v,st.new row)):=λ_ _ h=>by cases h;exact J3 _
theorem zr:Up st (So (v,st.aj l)):=λ_ _ h=>by cases h;exact J3 _
theorem SA:Up st (So (v,st.put r row)):=λ_ _ h=>by cases h;exact Q0 _
theorem gZ{b:Bool}{x:aD}(hx:Up st x)(hy:Up st y):Up st (@Bool.rec (λ_=>aD) x y b):=by cases b<;>assumption
theorem pe{b:Bool}{x:aD}(hx:Up st x)(hy:Up st y):Up st (@Bool.rec (λ_=>Option (AV×St)) x y b):=by cases b<;>assumption
theorem vS{o:Option AV}:Up st (cX st o):=by cases o;exact bu;exact fp
theorem FK{o:Option St}(h:sQ st o):Up st (done o):=by
 cases o with
 |none=>exact bu
 |some x=>intro v st' e;cases e;exact h _ rfl
theorem FN:sQ st none:=λ_ h=>by grind
theorem adQ:sQ st (So (st.put r row)):=λ_ h=>by cases h;exact Q0 _
theorem KA{b:Bool}{x y:Option St}(hx:sQ st x)(hy:sQ st y):sQ st (@Bool.rec (λ_=>Option St) x y b):=by cases b<;>assumption
theorem B7{o:Nat}:sQ st (wt st r o l):=by
 unfold wt;split
 ·refine KA FN ?_;intro st' h;grind
 ·exact FN
theorem Sz{n:Option Nat}:Up st (int64 st n):=by cases n;exact bu;exact fp
theorem Sw{l:Option (List AV)}:Up st (lh st l):=by cases l;exact bu;exact zr
theorem adR{t:TypeId}{a:AV}:sQ st (storeAt P t st a v):=by unfold storeAt vO;grind[FN,B7,KA]
theorem SF{t:TypeId}{k:AV}:sQ st (mapUpdate P t st x k v):=by unfold mapUpdate;grind[FN,adQ,KA]
theorem Sy:Up st (So (grow st z n l)):=zr
theorem ady{o len:Nat}:Up st (yr st r o len z n l):=by unfold yr;intro v st' h;grind
theorem SB{o:Nat}:Up st (match wt st r o l with|some st=>So (v,st)|none=>No):=by
 split
 ·rename_i s h;intro v st' e;cases e;exact B7 _ h
 ·exact bu
theorem adt:Up st (append P st ts s x):=by
 unfold append
 repeat' (first|exact bu|exact fp|exact Sy|exact ady|exact SB|apply gZ|apply pe|split)
theorem ads{r:aD}(h:Up st r):Up st (pH P st ts s r):=by
 unfold pH;split
 ·unfold Gp;split
  ·rename_i r o n z c st1;have h1:st.next<=st1.next:=h _ _ rfl;refine gZ (λv s e=>by grind) (λv s e=>by cases e;exact K8 h1)
  grind
 grind
theorem adu{n:Option Nat}:Up st (wj P st ts s x n):=by
 unfold wj;split
 ·split
  ·unfold CC GA Gz
   repeat' (first|exact bu|exact fp|exact zr|apply gZ|apply pe|split)
  ·exact bu
 ·exact ads adt
theorem adz:Up st (So (v,st.kill r)):=by intro v' s e;cases e;unfold St.kill;grind
theorem adC{pt:Nat}:Up st (BZ P st pt n v):=by
 unfold BZ Kt JY
 repeat' (first|exact bu|exact fp|exact adz|apply gZ|apply pe|split)
theorem adB{o:Option (List AV)}:Up st (strOf st o):=by
 unfold strOf
 repeat' (first|exact bu|exact fp|split)
theorem adv{b:Builtin}:Up st (wy b P st ts az):=by
 unfold wy;split
 ·unfold fD;split;exact adu;exact bu
 ·unfold cP qQ
  repeat' (first|exact bu|exact fp|exact Sz|apply gZ|apply pe|split)
 ·unfold GH CW
  repeat' (first|exact bu|exact fp|exact Sz|apply gZ|apply pe|split)
 ·unfold x6 copyV Ho
  repeat' (first|exact bu|exact fp|exact SB|apply gZ|apply pe|split)
 ·unfold uI Hf x9 EC;split
  ·split
   ·split
    ·apply gZ
     ·split
      ·split
       ·rename_i h;intro v st' e;cases e;exact B7 _ h
       ·exact bu
      ·exact bu
     ·exact fp
    ·exact fp
    ·exact bu
   ·exact bu
  ·exact bu
 ·unfold x7;split;exact fp;exact bu
 ·unfold CI
  repeat' (first|exact bu|exact fp|apply gZ|apply pe|split)
 ·unfold CJ;split
  ·exact adC
  ·exact bu
 ·exact bu
structure fC(S:Self):Prop where
 call:∀f az st,Up st (S.call f az st)
 code:∀nt c t st,(∀t' st',S.code nt c t st=.nx t' st'->st.next<=st'.next)/\(∀i t' st',S.code nt c t st=.ex i t' st'->st.next<=st'.next)/\(∀t' st',S.code nt c t st=.rt t' st'->st.next<=st'.next)
 dcall:∀f az st,Up st (S.dcall f az st)
theorem Sx(hS:fC S):Up st (pP P S f az st):=by
 unfold pP CT
 repeat' (first|exact bu|exact hS.call _ _ _|split)
theorem adx:Up st (Dp P fn st az):=by
 refine gZ ?_ ?_
 ·refine gZ ?_ ?_
  ·refine gZ bu ?_;unfold Dq;split
   ·split
    ·unfold HH;split
     ·refine gZ bu ?_;intro v s e;cases e;exact Q5 (J3 _) (J3 _)
     ·exact bu
    ·exact bu
   ·exact bu
  ·unfold HJ;split
   ·exact fp
   ·exact bu
 unfold Dr;split
 ·refine gZ bu ?_;unfold HI;split<;>exact fp
 ·exact bu
theorem adw(hS:fC S):Up st (pN P S f az st):=by
 unfold pN CU
 repeat' (first|exact bu|exact hS.call _ _ _|exact adx|split)
theorem adA(hS:fC S){l:Nat}:Up st (round S l az st):=by
 unfold round;split
 ·rename_i t nt ps a b hg;split
  ·rename_i t' ht;intro v st' h;unfold JG at h;split at h
   ·rename_i t1 st1 h1;unfold Fg at h;split at h
    ·rename_i t2 st2 h2;cases h;have e1:=(hS.code nt a t' (st.drop l)).1 _ _ h1;have e2:=(hS.code nt b t1 st1).1 _ _ h2;have e0:(st.drop l).next=st.next:=rfl;have e3:(st2.put l (.lp t nt ps a b)).next=st2.next:=rfl;omega
    grind
   grind
  ·exact bu
 ·exact bu
theorem Kw(hS:fC S):Up st (cC P S t st o):=by
 have nop:Up st (mf P S t st):=bu;unfold cC;cases hop:o.op<;>first|exact nop|skip
 case move x=>exact fp
 case assign x=>exact fp
 case pick c a b=>
  show Up st (rJ (ah t a) (ah t b) st (ah t c).gH)
  unfold rJ
  repeat' (first|exact bu|exact fp|split)
 case alloc e=>exact Sw
 case box e x=>exact Sw
 case build ty parts=>
  show Up st (@Bool.rec (λ_=>aD) No (cI P ty (eB t parts.toList) st) (eC P ty))
  unfold cI jc Cy
  repeat' (first|exact bu|exact fp|apply gZ|split)
 case buildSlice ty len parts=>
  show Up st (oT ty len parts P S t st)
  unfold oT yC
  repeat' (first|exact bu|exact zr|apply gZ|apply pe|split)
 case insert ty m k x=>exact FK SF
 case mapUpdate ty m k x=>exact FK SF
 case mapEntry ty m k=>
  show Up st (mapEntry P ty st (ah t m) (ah t k))
  unfold mapEntry Hx Hy
  repeat' (first|exact bu|exact SA|apply gZ|split)
 case entryStore ty m s x=>
  refine FK ?_;unfold entryStore RY
  repeat' (first|exact(λ_ h=>by cases h;exact Q0 _)|exact(λ_ h=>by cases h)|split)
 case load ty a=>exact vS
 case store ty a x=>exact FK adR
 case nilCheck x=>
  show Up st (notNil st (ah t x))
  rw[PO];unfold DD
  repeat' (first|exact bu|exact fp|split)
 case binOp op ty x y ty'=>exact vS
 case unOp op ty x=>exact vS
 case convert src dst x=>
  show Up st (conv P st src dst (ah t x))
  unfold conv CS Da Hm Hl
  repeat' (first|exact bu|exact fp|exact adB|exact Sy|apply gZ|apply pe|split)
 case makeFunc fn a b=>
  show Up st (Bf fn a b P S t st)
  unfold Bf;exact gZ bu fp
 case makeMap ty r=>
  show Up st (Bg r P S t st)
  unfold Bg;split
  ·exact Ku
  ·exact bu
 case makeSlice ty l c=>
  show Up st (rH ty l c P S t st)
  unfold rH
  repeat' (first|exact bu|exact zr|apply gZ|apply pe|split)
 case slice ty x lo hi mx=>exact vS
 case fieldAddr s x n=>
  show Up st (oU s x n P S t st)
  unfold oU fieldAt
  repeat' (first|exact bu|exact fp|split)
 case indexAddr ty x ix=>exact vS
 case index ty x ix=>exact vS
 case lookup ty x ix ok=>exact vS
 case range ty x=>
  show Up st (rP P ty st (ah t x))
  unfold rP
  repeat' (first|exact bu|exact Ku|split)
 case next it isS=>
  show Up st (wQ st isS (ah t it))
  unfold wQ IH
  repeat' (first|exact bu|exact fp|exact SA|apply gZ|apply pe|split)
 case entry it=>
  show Up st (td st (ah t it))
  have hf:∀(b:Nat) (es:List (AV×AV×Nat)),Up st (vd b st es):=by
   intro b es;induction es with
   |nil=>exact bu
   |cons e l ih=>have⟨k,v,n⟩:=e;exact gZ ih fp
  unfold td Di
  repeat' (first|exact bu|exact hf _ _|apply gZ|apply pe|split)
 case extract x n=>
  show Up st (nth n st (ah t x))
  unfold nth
  repeat' (first|exact bu|exact vS|split)
 case call c=>
  show Up st (rG c P S t st)
  unfold rG;split
  ·exact adv
  ·unfold sY
   repeat' (first|exact bu|exact adw hS|exact adA hS|split)
  ·exact bu
def dw(st:St)(r:Out):Prop:=(∀t' st',r=.nx t' st'->st.next<=st'.next)/\(∀i t' st',r=.ex i t' st'->st.next<=st'.next)/\(∀t' st',r=.rt t' st'->st.next<=st'.next)
theorem eZ:dw st .no:=⟨λ_ _ h=>(Out.noConfusion h),λ_ _ _ h=>(Out.noConfusion h),λ_ _ h=>(Out.noConfusion h)⟩
theorem sk(h:st.next<=st'.next):dw st (.nx t st'):=⟨λ_ _ e=>(by grind),λ_ _ _ e=>(by grind),λ_ _ e=>(by grind)⟩
theorem adL(h:st.next<=st'.next):dw st (.ex i t st'):=⟨λ_ _ e=>(by grind),λ_ _ _ e=>(by grind),λ_ _ e=>(by grind)⟩
theorem adP(h:st.next<=st'.next):dw st (.rt t st'):=⟨λ_ _ e=>(by grind),λ_ _ _ e=>(by grind),λ_ _ e=>(by grind)⟩
theorem dw.mono{r:Out}(h:dw st' r)(hs:st.next<=st'.next):dw st r :=
 ⟨λ_ _ e=>Q5 hs (h.1 _ _ e),λ_ _ _ e=>Q5 hs (h.2.1 _ _ _ e),λ_ _ e=>Q5 hs (h.2.2 _ _ e)⟩
theorem SE{o:Option (Tr AV)}{k:Tr AV->Out}(hk:∀t,dw st (k t)):dw st (iz o k):=by unfold iz;grind[Tr.seen_eq,eZ]
theorem adM{r:aD}{k:Tr AV->St->Out}(hr:Up st r)(hk:∀t st',st.next<=st'.next->dw st (k t st')):dw st (oS nt t d r k):=by
 unfold oS;split
 ·exact SE λt=>hk _ _ (hr _ _ rfl)
 ·exact eZ
theorem tZ{P:Program}{S:Self}(hS:fC S){nt:Nat}{ops:Array Oper}:∀(l:List Oper) (t:Tr AV) (st:St),dw st (bw P S nt ops l t st)
 |[],t,st=>sk (Q0 _)
 |o::l,t,st=>by
  show dw st (mc P S nt o t st (bw P S nt ops l) (gL ops t o))
  unfold mc;split
  ·exact adM (Kw hS) λt' st' h=>(tZ hS l t' st').mono h
  ·exact SE λt'=>tZ hS l t' st
  ·exact eZ
theorem Kz{o:Out}{k:Tr AV->St->Out}(ho:dw st o)(hk:∀t st',dw st' (k t st')):dw st (bW o k):=by
 unfold bW;split
 ·exact(hk _ _).mono (ho.1 _ _ rfl)
 grind
theorem adN{x:Ctx}(hS:fC x.S){ps:Array Tmp}{a b:Code}:dw st (rN x ps a b t st v):=by
 unfold rN;split
 ·split
  ·rename_i st' h;have:=Sx hS _ _ h;unfold Bz;split
   ·refine sk ?_;have e:(st.new (.lp t x.nt ps.toList a b)).next=st.next+1:=rfl;have e':(st'.drop st.next).next=st'.next:=rfl;omega
   ·exact eZ
  ·exact eZ
 ·exact eZ
theorem Kx{P:Program}{S:Self}(hS:fC S){nt:Nat}{ops:Array Oper}:∀{l:List Oper}{t:Tr AV}{st:St}{R:List Rec},cj P S nt ops l t st=So R->∀r∈R,st.next<=r.st.next
 |[],t,st,R,h=>by cases h;grind
 |o::l,t,st,R,h=>by
  have onR:∀{r:Rec}{st':St}{k:Option (List Rec)},tF r k=So R->r.st=st->st.next<=st'.next->(∀R',k=So R'->∀r∈R',st'.next<=r.st.next)->∀r∈R,st.next<=r.st.next:=by
   intro r st' k hk hr hn hR;cases k with
   |none=>cases hk
   |some R'=>cases hk;grind
  unfold cj at h;split at h
  ·unfold rT at h;split at h
   ·rename_i v st' hv;unfold lL at h;split at h
    ·exact onR h rfl (Kw hS _ _ hv) λR' hR'=>Kx hS hR'
    grind
   grind
  ·unfold lL at h;split at h
   ·exact onR h rfl (Q0 _) λR' hR'=>Kx hS hR'
   grind
  grind
theorem ON:∀{R:List Rec}{t:Tr AV}{st:St},jQ R=.nx t st->∃r∈R,r.t=t/\r.st=st
 |[],t,st,h=>by cases h
 |[r],t,st,h=>by cases h;grind
 |r::q::l,t,st,h=>by have h:jQ (q::l)=.nx t st:=h;have⟨x,hx,k⟩:=ON h;grind
theorem It:∀(R:List Rec),jQ R=.no\/∃t st,jQ R=.nx t st
 |[]=>.inl rfl
 |[r]=>.inr ⟨_,_,rfl⟩
 |r::q::l=>It (q::l)
theorem FM(hS:fC S){l:List Oper}{R:List Rec}(hR:cj P S nt ops l t st=So R):dw st (jQ R):=by
 rcases It R with h|⟨t',st',h⟩
 ·rw[h];exact eZ
 ·rw[h];obtain⟨r,hr,_,rfl⟩:=ON h;exact sk (Kx hS hR r hr)
theorem adG(hS:fC S){l:List Oper}{fl:List (Nat×Nat)}:dw st (nG P S ops fl (cj P S nt ops l t st)):=by unfold nG;grind[eZ,FM]
theorem adH(hS:fC S):dw st (Ai P S nt t st m):=by
 cases m with
 |none=>exact eZ
 |some m=>exact adG hS
theorem adI(hS:fC S):dw st (Aj P S nt ops t st m):=by
 cases m with
 |some m=>
  show dw st (Ai P S nt t st (So m))
  exact adH hS
 |none=>
  show dw st (Ak P S nt t st (vE ops))
  cases vE ops with
  |none=>exact eZ
  |some m=>
   show dw st (Df P S m (cj P S nt m.m.pops m.m.pops.toList t st) (cj P S nt (gk m.k m.m.pops) (gk m.k m.m.pops).toList t st))
   cases hA:cj P S nt m.m.pops m.m.pops.toList t st with
   |none=>exact eZ
   |some RA=>
    cases cj P S nt (gk m.k m.m.pops) (gk m.k m.m.pops).toList t st with
    |none=>exact eZ
    |some RB=>grind[Df,eZ,FM]
theorem adF(hS:fC S){m:Option vX}:dw st (uW P S nt ops t st m):=by
 unfold uW;split
 ·rename_i m;unfold Hs;split
  ·rename_i R hR;cases hc:m.fl.all (recheck P S m.aops R)with
   |false=>exact eZ
   |true=>
    split
    ·rename_i es hk;have hl:=FM hS hR;rcases It R with h|⟨t',st',h⟩
     ·rw[h];exact eZ
     ·rw[h]at hl|-;have hn:=hl.1 _ _ rfl;show dw st (Ed P S nt ops m.h es st' (dE nt t' (So m.d) (.m st'.next)))
      unfold Ed;split
      ·rw[Tr.seen_eq];refine(tZ hS _ _ _).mono ?_;have:(st'.new (.mu es)).next=st'.next+1:=rfl;omega
      ·exact eZ
    ·exact eZ
  ·exact eZ
 ·exact adI hS
theorem adE{x:Ctx}(hS:fC x.S):dw st (qW x ops t st):=by
 unfold qW Ah;split
 ·unfold nG;grind[eZ,FM]
 ·exact adF hS
theorem Ky{body:Tr AV->St->Out}(hb:∀t st,dw st (body t st)):∀(n:Nat) (t:Tr AV) (st:St),dw st (aQ body n t st)
 |0,_,_=>eZ
 |n+1,t,st=>Kz (hb t st) (λt st'=>Ky hb n t st')
theorem adO{x:Ctx}(hS:fC x.S):dw st (oV x ops t st):=by
 have h1:∀{e:Nat}{t:Tr AV}{st':St}{v:AV},st.next<=st'.next->dw st (zq e t st' v):=by
  intro e t st' v h;unfold zq;split
  ·rename_i r q;cases hb:Nat.beq (r+1) st'.next with
   |false=>exact sk h
   |true=>exact sk (show st.next<=st'.next+1 from K8 h)
  ·exact sk h
 have hv:∀{e:Nat}{d:Tmp}{o:Out},dw st o->dw st (xe x e d o):=by
  intro e d o ho;unfold xe;cases yY x.P e with
  |false=>grind
  |true=>
   unfold Ss;split
   ·exact h1 (ho.1 _ _ rfl)
   grind
 unfold oV;split
 ·have ho:=tZ hS (nt:=x.nt) (ops:=ops) (P:=x.P) ops.toList t st;unfold Fe;split
  ·unfold JB;grind
  grind
 ·exact tZ hS _ t st
theorem iQ:∀(c:Code) (x:Ctx),fC x.S->∀(t:Tr AV) (st:St),dw st (ao c x t st):=by
 intro c;induction c with
 |skip=>intro x hS t st;exact sk (Q0 _)
 |region id ops draw=>
  intro x hS t st;cases draw
  ·exact adO hS
  ·exact adE (ops:=ops) (t:=t) hS
 |seq a b iha ihb=>intro x hS t st;exact Kz (iha x hS t st) (ihb x hS)
 |cond c a b iha ihb=>
  intro x hS t st;show dw st (wB (ao a x) (ao b x) t st (ah t c))
  unfold wB;split
  ·grind
  ·grind
  ·exact eZ
 |block id b ih=>
  intro x hS t st;show dw st (pL id (ao b x t st))
  have h:=ih x hS t st;unfold pL;split
  ·rename_i i t' st' e;rw[e]at h;have:=h.2.1 _ _ _ rfl;cases Nat.beq i id
   ·grind
   ·exact sk this
  grind
 |loop b ih=>intro x hS t st;exact Ky (ih x hS) x.n t st
 |rangeFunc f ps a b iha ihb=>
  intro x hS t st;show dw st (_root_.cond x.inR .no (rN x ps a b t st (ah t f)))
  cases x.inR
  ·exact adN hS
  ·exact eZ
 |exit id=>intro x hS t st;exact adL (Q0 _)
 |scope b ih=>intro x hS t st;exact eZ
 |label l=>intro x hS t st;exact sk (Q0 _)
 |goto l=>intro x hS t st;exact eZ
 |ret=>intro x hS t st;exact adP (Q0 _)
 |refuse w=>intro x hS t st;exact eZ
theorem adJ{x:Ctx}(hS:fC x.S){o:Out}(ho:dw st o):dw st (pT x v o):=by
 have hd:∀(t:Tr AV) (st1:St),st.next<=st1.next->dw st (oD x t st1 v):=by
  intro t st1 h;unfold oD;split
  ·unfold wD;split
   ·rename_i e;refine sk (Q5 h ?_);unfold pR Hr at e;split at e
    ·split at e
     ·exact hS.dcall _ _ _ _ _ e
     grind
    grind
   ·exact eZ
  ·exact eZ
 unfold pT;split
 ·exact hd _ _ (ho.1 _ _ rfl)
 ·exact hd _ _ (ho.2.2 _ _ rfl)
 ·exact eZ
theorem SD{x:Ctx}(hS:fC x.S):∀(n:Nat) (c:Code) (t:Tr AV) (st:St),dw st (kM x n c t st):=by
 intro n;induction n with
 |zero=>intro c t st;exact iQ c x hS t st
 |succ n ih=>
  intro c t st;cases c with
  |seq a b=>
   unfold kM;split
   ·rename_i ops h d f _;have ho:=tZ hS (nt:=x.nt) (ops:=ops) (P:=x.P) h t st;unfold vR;split
    ·rename_i t1 st1 e;rw[e]at ho;unfold Fh;split
     ·rw[Tr.seen_eq];exact adJ hS ((iQ b x hS _ _).mono (ho.1 _ _ rfl))
     ·exact eZ
    ·exact eZ
   grind[Kz,iQ]
  |skip=>exact iQ .skip x hS t st
  |region id ops dr=>exact iQ (.region id ops dr) x hS t st
  |cond o a b=>exact iQ (.cond o a b) x hS t st
  |block id a=>exact iQ (.block id a) x hS t st
  |loop a=>exact iQ (.loop a) x hS t st
  |rangeFunc f ps a b=>exact iQ (.rangeFunc f ps a b) x hS t st
  |exit id=>exact iQ (.exit id) x hS t st
  |scope a=>exact iQ (.scope a) x hS t st
  |label l=>exact iQ (.label l) x hS t st
  |goto l=>exact iQ (.goto l) x hS t st
  |ret=>exact iQ .ret x hS t st
  |refuse why=>exact iQ (.refuse why) x hS t st
theorem adK{x:Ctx}(hS:fC x.S)(c:Code)(t:Tr AV)(st:St):dw st (qX x c t st):=by
 unfold qX;cases defers 4 c
 ·exact iQ c x hS t st
 ·exact SD hS 4 c t st
theorem FL(hS:fC S):Up st (ib P S n f az st):=by
 have res:∀{l:List ResultVar}{t:Tr AV}{st':St},st.next<=st'.next->Up st (nY P l t st'):=by intro l t st' h;unfold nY;split<;>first|exact bu|(intro v s e;grind)
 unfold ib;split
 ·exact bu
 ·rename_i fn _;split
  ·exact bu
  ·rename_i c _;refine gZ bu ?_;have h:=adK (x:=⟨P,S,Ff,fn.ntmps,n⟩) hS c (tmpsOf az 0 .lf) st;unfold fN;split
   ·rename_i e;exact res (h.1 _ _ e)
   ·rename_i e;exact res (h.2.2 _ _ e)
   ·exact bu
theorem BG(P:Program):∀n,fC (self P n)
 |0=>⟨λ_ _ _=>bu,λ_ _ _ _=>eZ,λ_ _ _=>bu⟩
 |n+1=>⟨λ_ _ _=>FL (BG P n),λnt c t st=>iQ c ⟨P,self P n,Tt,nt,n⟩ (BG P n) t st,λ_ _ _=>FL (BG P n)⟩
theorem acn(h:Rel E w.heap st)(hb:CI P st ts az=So (v,st'))(hc:aH E az us)(tsA:Array TypeId)(ty:TypeId):
  ∃z,(Builtin.unsafeSliceData_ tsA ty us.toArray).run P w=.ok z w/\st'=st/\Conc E v z:=by
 unfold CI at hb;split at hb
 ·rename_i r o n z c;have⟨hn,hb⟩:=dH hb;cases hb;have hn':0<n:=by simp_all
  cases hc with|cons _ _ u us hu t=>
  cases t;cases hu with
  |slk _ _ _ _ c a hle hh=>
   rcases hh with rfl|⟨B,hB,rfl⟩
   ·omega
   ·exact⟨_,V0 w tsA ty _ n c (by omega),rfl,.p r o B hB⟩
  |slu _ _ _ _ c a hle hh=>
   obtain⟨B,hB,hcc,-⟩:=hh;rcases hcc with rfl|rfl
   ·omega
   ·exact⟨_,V0 w tsA ty _ n c (by omega),rfl,.p r o B hB⟩
 ·cases hb;cases hc with|cons _ _ u us hu t=>cases t;cases hu;exact⟨_,Lib.run_unsafeSliceData_nil w tsA ty 0 0,rfl,.pn⟩
 grind
theorem Vg(h:byteOf v=So b):v=.i .u8 (.ofNat b)/\b<256:=by
 unfold byteOf at h;split at h
 ·have⟨hb,h⟩:=dH h;simp_all
 grind
theorem Mo:∀{l:List AV}{bs:List Nat}{us:List Value},aO byteOf l=So bs->aH E l us->us=(bs.map Nat.toUInt8).map (λb=>Value.int .u8 b.toNat)/\(bs.map Nat.toUInt8).map UInt8.toNat=bs
 |[],bs,us,h,hc=>by cases h;cases hc;grind
 |v::l,bs,us,h,hc=>by
  unfold aO at h;cases hv:byteOf v with
  |none=>grind
  |some b=>
   rw[hv]at h;cases hl:aO byteOf l with
   |none=>grind
   |some bs'=>
    rw[hl]at h;cases h;obtain⟨rfl,hb⟩:=Vg hv;cases hc with|cons _ _ u us hu t=>
    have⟨h1,h2⟩:=Mo hl t;cases hu;have e:(b.toUInt8).toNat=b:=by simp[J8 hb]
    refine⟨?_,?_⟩
    ·rw[h1];simp only[V1,e];rfl
    ·simp only[V1,e,h2]
theorem adr(h:Rel E w.heap st){pt it:TypeId}{p:AV}{up:Value}(hb:BZ P st pt n p=So (v,st'))(hp:Conc E p up)(ty:TypeId):
  ∃z w',(Builtin.unsafeString_ #[pt,it] ty #[up,.int .i64 (Int.ofNat n)]).run P w=.ok z w'/\aR E E w w' st st'/\Conc E v z:=by
 have empty:Conc E (.s []) (.string .empty):=Conc.s (E:=E) .empty;unfold BZ at hb;split at hb
 ·rename_i r o;cases hp with|p _ _ B hB=>
  cases h0:Nat.beq n 0 with
  |true=>rw[h0]at hb;cases hb;have:=Q7 h0;subst this;exact⟨_,w,V2 w pt it ty _,.refl h,empty⟩
  |false=>
   rw[h0]at hb;have h0':n≠0:=by rintro rfl;cases h0
   have⟨ho,hb⟩:=dm hb;have ho':=Q7 ho;subst ho';unfold Kt at hb;split at hb
   case h_2=>cases hb
   rename_i e hu;have⟨hk,hb⟩:=dm hb;simp only[Q4]at hk;have⟨hty,hsz,hmax⟩:=hk;cases hrd:rd st r 0 n with
   |none=>rw[hrd]at hb;cases hb
   |some l=>
    rw[hrd]at hb;unfold JY at hb;simp only at hb;cases hbs:aO byteOf l with
    |none=>grind
    |some bs=>
     rw[hbs]at hb;cases hb;have⟨B2,hB2,hd2,cs2,fz2,hH2⟩:=Kq h hty;rw[hB]at hB2;cases hB2;have hd:=hd2 rfl;unfold rd at hrd;cases hce:st.ce r with
     |none=>grind
     |some lga=>
      have⟨l0,g,al⟩:=lga;rw[hce]at hrd;simp only at hrd;have⟨B',cs,t',fz,hB',hH,hfz,hn,hdl,hC⟩:=h.cells hce;rw[hB]at hB';cases hB';have htt:t'=e:=by rw[hH]at hH2;simp only[X4,Obj.cells.injEq]at hH2;exact hH2.2.1
      subst htt;obtain⟨rfl,hle⟩:=pQ hrd;have hle':n<=l0.length:=by omega
      rw[hd,V3]at hC;rw[V3]at hbs;have hCn:=hC.take n;rw[List.take_take,Nat.min_eq_left hle']at hCn;have⟨hus,hbb⟩:=Mo hbs hCn;have hlen:(bs.map Nat.toUInt8).length=n:=by have:=congrArg List.length hus;simp only[List.length_take,V4]at this;rw[V4];omega
      have hcell:∀j x,(bs.map Nat.toUInt8)[j]? = So x->w.cell? ((⟨B.b,0,No⟩:Addr).add j)=So (.int .u8 x.toNat):=by
       intro j x hj;have hjn:j<n:=by rw[<-hlen];exact(List.getElem?_eq_some_iff.1 hj).1
       have h1:(cs.take n)[j]? = So (Value.int .u8 x.toNat):=by rw[hus,List.getElem?_map,hj];rfl
       rw[List.getElem?_take_of_lt hjn]at h1;have hadd:(⟨B.b,0,No⟩:Addr).add j=⟨B.b,j,No⟩:=by unfold Addr.add;split<;>simp_all
       rw[hadd];simp[World.cell?,hH,h1]
      have hcs1:P.cellsOf t'=1:=by
       have h1:aq P t'=1:=Q7 hsz;unfold aq at h1;unfold Program.cellsOf;cases hi:P.info? t' with
       |none=>rw[hi]at h1;exact h1
       |some i=>rw[hi]at h1;exact h1
      have hne:bs.map Nat.toUInt8≠[]:=by intro e0;rw[e0]at hlen;exact h0' hlen.symm
      have hmax':n<=9223372036854775807:=J5 hmax;have hrun:=Lib.run_unsafeString_row (P:=P) w pt it ty t' hu hcs1 B.b cs.length (JO hH) (bs.map Nat.toUInt8) hne (by omega) (by omega) hcell;have haddr:(⟨B.b,0+B.d,No⟩:Addr)=⟨B.b,0,No⟩:=by rw[hd]
      rw[hlen]at hrun;refine⟨_,_,by rw[haddr];exact hrun,?_,?_⟩
      ·have hfreeze:∃fz',w.freeze ⟨B.b,0,No⟩ n={w with heap:=w.heap.setIfInBounds B.b (.cells cs.toArray t' fz')}:=by
        have⟨lo,hi⟩:=fz;refine⟨if lo==hi then(0,0+n) else(min lo 0,max hi (0+n)),?_⟩;unfold World.freeze;rw[if_neg h0'];congr 1;have⟨hlt,hEq⟩:=J9.1 hH;apply Array.ext
        ·simp
        ·intro j g1 g2;by_cases e1:j=B.b
         ·subst e1;rw[Array.getElem_modify_self];simp[hEq]
         ·rw[Array.getElem_modify_of_ne (Ne.symm e1),Array.getElem_setIfInBounds_ne _ (Ne.symm e1)]
       have⟨fz',hfr⟩:=hfreeze;rw[hfr];exact .of (Step.YI h hce hB hH _ fz')
      ·have hs:=Conc.s (E:=E) ⟨(bs.map Nat.toUInt8).toArray⟩;have e1:((⟨(bs.map Nat.toUInt8).toArray⟩:ByteArray).data.toList.map UInt8.toNat)=bs:=by
        exact hbb
       rw[e1]at hs;exact hs
 ·have⟨h0,hb⟩:=dH hb;cases hb;have:=Q7 h0;subst this;cases hp;exact⟨_,w,V2 w pt it ty _,.refl h,empty⟩
 grind
def DJ:Op->Bool
 |.call c=>match c.callee with
  |.builtin _=>Ff
  |_=>Tt
 |_=>Ff
theorem yb(hρ:∀x,Conc E (ah t x) (ρ x)):∀o:Option Operand,lS E (o.map (ah t)) (o.map ρ)
 |none=>.none
 |some x=>.some _ _ (hρ x)
theorem PP(hs:notNil st x=So (v,st'))(hx:Conc E x u):st'=st/\Conc E v u/\
  (u≠.pointer No/\u≠.nilIface/\u≠.nilFunc/\∀n a b,u≠.func (.method n) a b):=by
 rw[PO]at hs;split at hs
 ·cases hs;cases hx;exact⟨rfl,.p _ _ _ (by grind),by simp⟩
 ·cases hs;cases hx;exact⟨rfl,.gp _,by simp⟩
 ·cases hs;cases hx;exact⟨rfl,.rp _ _ _ _ (by omega) (by grind),by simp⟩
 ·unfold DD at hs;split at hs
  ·cases hs;exact⟨rfl,hx,by cases hx;simp⟩
  ·cases hs;exact⟨rfl,hx,by cases hx<;>simp⟩
  grind
 grind
theorem PM(h:u≠.pointer No/\u≠.nilIface/\u≠.nilFunc/\∀n a b,u≠.func (.method n) a b){x:Operand}(hx:ρ x=u)(ho:o.op=.nilCheck x):(execOp ρ o).run P w=.ok (.value u) w:=by simp_all[execOp]
theorem Uq{r:AV×St}(h:x6 P st ts az=So r):∃d x,az=[d,x]:=by unfold x6 at h;grind
theorem UQ(h:Rel E w.heap st){b:Builtin}{ts:Array TypeId}(hb:wy b P st ts.toList az=So (v,st'))(hc:aH E az us)(hn:st'.next<=E.top)(ty:TypeId)(cs:Array Bool):
  om E w st st' v ((builtin b ts ty cs us.toArray).run P w):=by
 have two:∀{s:Sem Value}{z:Value}{E':Env}{w':World},s.run P w=.ok z w'->aR E E' w w' st st'->Conc E' v z->om E w st st' v ((do pure (.value (<-s)):Sem Next).run P w):=λa b c=>oH a b c
 cases b<;>first|(cases hb;done)|skip
 case append=>
  simp only[wy,fD]at hb;split at hb
  ·rename_i s x;cases hc with|cons _ _ u us h1 t=>
   cases t with|cons _ _ u' us' h2 t'=>
   cases t';cases hx:gO x with
   |none=>rw[hx]at hb;have⟨E',w',z,k1,k2,k3⟩:=Ue h hb h1 h2 hn ty;exact two k1 k2 k3
   |some n=>
    rw[hx]at hb;obtain⟨k,rfl⟩:=IE hx;cases h2;simp only[wj]at hb;split at hb
    ·cases h1;have⟨E',w',z,k1,k2,k3⟩:=Uh (k:=k) h hb hn ty;exact two k1 k2 k3
    grind
  grind
 case cap=>
  simp only[wy,GH]at hb;split at hb
  ·rename_i t r x hts;split at hb
   ·rename_i e he;cases hc with|cons _ _ u us h1 t=>cases t;obtain⟨rfl,z,k1,k2⟩:=Vq (w:=w) (r:=r) he hb h1 ty;have:ts=(_::r).toArray:=Z0.1 hts;subst this;exact two k1 (.refl h) k2
   grind
  grind
 case copy=>
  obtain⟨d,x,rfl⟩:=Uq hb;cases hc with|cons _ _ u us h1 t=>
  cases t with|cons _ _ u' us' h2 t'=>
  cases t';have⟨w',z,k1,k2,k3⟩:=VT h hb h1 h2 ty;exact two k1 k2 k3
 case clear=>
  obtain⟨x,rfl⟩:=Uo hb;cases hc with|cons _ _ u us h1 t=>
  cases t;obtain⟨w',k1,k2,rfl⟩:=VB h hb h1 ty;exact two (by simp_all) k2 (.tu [] [] .nil)
 case len=>
  simp only[wy,cP]at hb;split at hb
  ·cases hc with|cons _ _ u us h1 t=>cases t;obtain⟨rfl,z,k1,k2⟩:=OV h hb h1 ty;exact two (by simp_all) (.refl h) k2
  grind
 case max=>obtain⟨rfl,z,k1,k2⟩:=Zu (w:=w) (P:=P) (ts:=ts.toList) hb hc ts ty;exact two k1 (.refl h) k2
 case unsafeSliceData=>have⟨z,k1,hst,k2⟩:=acn (P:=P) (ts:=ts.toList) h hb hc ts ty;subst hst;exact two k1 (.refl h) k2
 case unsafeString=>
  have hb:CJ P st ts.toList az=So (v,st'):=hb;unfold CJ at hb;split at hb
  ·rename_i pt it p n hts hb0;have:ts = #[pt,it]:=Z0.1 hts;subst this;cases hc with|cons _ _ u us h1 t=>
   cases t with|cons _ _ u' us' h2 t'=>
   cases t';cases h2;have⟨z,w',k1,k2,k3⟩:=adr (it:=it) h hb h1 ty;exact two k1 k2 k3
  grind
theorem yy{β:Type}(f:α->β)(a:Array α):(a.toList.map f).toArray=a.map f:=by grind
theorem aaE(h:Rel E w.heap st)(hρ:∀x,Conc E (ah t x) (ρ x))(ho:cC P S t st o=So (v,st'))(hn:st'.next<=E.top)
  (hc:DJ o.op=Ff):om E w st st' v ((execOp ρ o).run P w):=by
 have nop:∀{r:AV×St},mf P S t st=So r->False:=λh=>by cases h
 unfold cC at ho;cases hop:o.op<;>rw[hop]at ho hc<;>first|exact(nop ho).elim|(cases hc;done)|skip
 case move x=>cases ho;simp only[execOp,hop];exact⟨E,w,ρ x,.inl rfl,.refl h,hρ x⟩
 case assign x=>cases ho;simp only[execOp,hop];exact⟨E,w,ρ x,.inl rfl,.refl h,hρ x⟩
 case pick c a b=>
  have ho:rJ (ah t a) (ah t b) st (ah t c).gH=So (v,st'):=ho;cases hb:(ah t c).gH with
  |none=>rw[hb]at ho;cases ho
  |some bb=>
   rw[hb]at ho;have hr:=LL (P:=P) (w:=w) hb (hρ c);simp only[execOp,hop];cases bb with
   |true=>cases ho;exact⟨E,w,ρ a,.inl (by simp_all),.refl h,hρ a⟩
   |false=>cases ho;exact⟨E,w,ρ b,.inl (by simp_all),.refl h,hρ b⟩
 case alloc e=>
  have ho:lh st (bt P e)=So (v,st'):=ho;cases hz:bt P e with
  |none=>rw[hz]at ho;cases ho
  |some l=>obtain⟨z,g1,g2,g3,g4⟩:=pg (E:=E) hz;obtain⟨E',w',a,k1,k2,k3⟩:=LA (P:=P) h ho hn (us:=z.cells) e (λl' e=>by grind);simp only[execOp,hop];refine oH (z:=.pointer (So a)) ?_ k2 k3;simp only[Instr.alloc,newVar,Q1,g1,Q2,k1,Q6]
 case box e x=>have ho:lh st (ah t x).cells=So (v,st'):=ho;obtain⟨E',w',a,k1,k2,k3⟩:=LA (P:=P) h ho hn (us:=(ρ x).cells) e (λl' e=>zY (hρ x) e);simp only[execOp,hop];refine oH (z:=.pointer (So a)) ?_ k2 k3;simp only[Instr.box,newVar,Q1,Q2,k1,Q6]
 case build ty parts=>obtain⟨rfl,z,k1,k2⟩:=Mh (S:=S) (w:=w) hρ ho;simp only[execOp,hop];exact oI h k1 k2
 case buildSlice ty len parts=>obtain⟨E',w',z,k1,k2,k3⟩:=UZ (S:=S) h hρ ho hn;simp only[execOp,hop];exact oH k1 k2 k3
 case insert ty m k x=>obtain⟨hd,rfl⟩:=Dd ho;obtain⟨w',k1,k2⟩:=Pk h hd (hρ m) (hρ k) (hρ x);simp only[execOp,hop];exact DI k1 k2
 case mapEntry ty m k=>obtain⟨w',z,k1,k2,k3⟩:=Zs h ho (hρ m) (hρ k);simp only[execOp,hop];exact oH k1 k2 k3
 case entryStore ty m s x=>obtain⟨hd,rfl⟩:=Dd ho;obtain⟨w',k1,k2⟩:=Wn h hd (hρ m) (hρ s) (hρ x);simp only[execOp,hop];exact DI k1 k2
 case mapUpdate ty m k x=>obtain⟨hd,rfl⟩:=Dd ho;obtain⟨w',k1,k2⟩:=Pk h hd (hρ m) (hρ k) (hρ x);simp only[execOp,hop];exact DI k1 k2
 case load ty a=>obtain⟨hd,rfl⟩:=ke ho;obtain⟨z,k1,k2⟩:=Iy h hd (hρ a);simp only[execOp,hop];exact oI h k1 k2
 case store ty a x=>obtain⟨hd,rfl⟩:=Dd ho;obtain⟨w',k1,k2⟩:=acR h hd (hρ a) (hρ x);simp only[execOp,hop];exact DI k1 k2
 case nilCheck x=>obtain⟨rfl,k2,k3⟩:=PP ho (hρ x);exact⟨E,w,ρ x,.inl (PM k3 rfl hop),.refl h,k2⟩
 case binOp op ty x y ty'=>obtain⟨hd,rfl⟩:=ke ho;obtain⟨z,k1,k2⟩:=LS (w:=w) hd (hρ x) (hρ y);simp only[execOp,hop];exact oI h k1 k2
 case unOp op ty x=>obtain⟨hd,rfl⟩:=ke ho;obtain⟨z,k1,k2⟩:=Sv (w:=w) hd (hρ x);simp only[execOp,hop];exact oI h k1 k2
 case convert src dst x=>obtain⟨E',w',z,k1,k2,k3⟩:=VN h ho (hρ x) hn;simp only[execOp,hop];exact oH k1 k2 k3
 case makeFunc fn a b=>
  obtain⟨hf,ho⟩:=dH ho;cases ho;simp only[execOp,hop];refine oI (z:=.func fn (a.map ρ) (b.map ρ)) h rfl ?_;have:=Conc.f (E:=E) fn _ _ _ _ hf (uF hρ a.toList) (uF hρ b.toList)
  rwa [yy,yy]at this
 case makeMap ty r=>
  have ho:Bg r P S t st=So (v,st'):=ho;unfold Bg at ho;cases r with
  |some _=>grind
  |none=>cases ho;simp only[execOp,hop];have hs:=IG h (show st.next+1<=E.top from hn) (.map #[] 0) (.mp [] 0) (λ_ _ e=>by grind) (λF _=>⟨#[],by simp,trivial⟩);refine oH (z:=.map (So w.heap.size)) (w':={w with heap:=w.heap.push (.map #[] 0)}) ?_ hs (.m _ _ Env.df);simp only[Instr.makeMap,Q8,Q1,run_newObj,Q2,Q6]
 case makeSlice ty l c=>obtain⟨E',w',z,k1,k2,k3⟩:=Zp (S:=S) h hρ ho hn;simp only[execOp,hop];exact oH k1 k2 k3
 case slice ty x lo hi mx=>obtain⟨hd,rfl⟩:=ke ho;obtain⟨z,k1,k2⟩:=RO h hd (hρ x) (yb hρ lo) (yb hρ hi) (yb hρ mx);simp only[execOp,hop];exact oI h k1 k2
 case fieldAddr s x n=>
  have ho:oU s x n P S t st=So (v,st'):=ho;unfold oU at ho;split at ho
  ·rename_i o' ho';obtain⟨rfl,z,k1,k2⟩:=Nl (w:=w) ho' ho (hρ x);simp only[execOp,hop];exact oI h k1 k2
  grind
 case indexAddr ty x ix=>obtain⟨hd,rfl⟩:=ke ho;obtain⟨z,k1,k2⟩:=Oi (w:=w) hd (hρ x) (hρ ix);simp only[execOp,hop];exact oI h k1 k2
 case index ty x ix=>obtain⟨hd,rfl⟩:=ke ho;obtain⟨z,k1,k2⟩:=Ol (w:=w) hd (hρ x) (hρ ix);simp only[execOp,hop];exact oI h k1 k2
 case lookup ty x ix ok=>obtain⟨hd,rfl⟩:=ke ho;obtain⟨z,k1,k2⟩:=Pg h hd (hρ x) (hρ ix);simp only[execOp,hop];exact oI h k1 k2
 case range ty x=>obtain⟨E',w',z,k1,k2,k3⟩:=aby h ho (hρ x) hn;simp only[execOp,hop];exact oH k1 k2 k3
 case next it isS=>obtain⟨w',z,k1,k2,k3⟩:=ZK h ho (hρ it) o.type;simp only[execOp,hop];exact oH k1 k2 k3
 case entry it=>obtain⟨rfl,z,k1,k2⟩:=Wm (P:=P) h ho (hρ it);simp only[execOp,hop];exact oI h k1 k2
 case extract x n=>obtain⟨rfl,z,k1,k2⟩:=PQ (P:=P) (w:=w) ho (hρ x);simp only[execOp,hop];exact oI h k1 k2
 case call c=>
  have ho:rG c P S t st=So (v,st'):=ho;unfold rG at ho;cases hcc:c.callee<;>rw[hcc]at ho<;>first|(simp only[DJ,hcc]at hc;cases hc;done)|skip
  rename_i b;simp only[execOp,hop,resolve,hcc,invoke];have:=UQ h (us:=c.args.toList.map ρ) ho (uF hρ c.args.toList) hn o.type (c.args.map λ|.const _=>Tt|_=>Ff);rw[yy]at this;grind
section
variable {b:Frame}
theorem BQ(ho:ops[i]? = So o)(hw:Region.wanted o (yielded ops a.tmps)=Tt)(hd:∀c,o.op≠.defer c){v:Value}(hr:(execOp a.eval o).run P w=.ok (.value v) w'):
  step P (lone (b.atR a (.inRegion ops (i::rest)::k)) cs w)=.next (lone (b.atR (a.put o.dst v) (.inRegion ops rest::k)) cs w'):=by
 have hf:=Z3 b a ops i rest k v;refine step_lone_go ?_;simp_all[stepGR_op,Q9,stepG.apply]
theorem JW(ho:ops[i]? = So o)(hw:Region.wanted o (yielded ops a.tmps)=Tt)(hd:∀c,o.op≠.defer c)(hr:(execOp a.eval o).run P w=.ok .skip w'):
  step P (lone (b.atR a (.inRegion ops (i::rest)::k)) cs w)=.next (lone (b.atR (a.put o.dst undef) (.inRegion ops rest::k)) cs w'):=by
 have hf:=Z3 b a ops i rest k undef;refine step_lone_go ?_;simp_all[stepGR_op,Q9,stepG.apply]
theorem RW(ho:ops[i]? = So o)(hw:Region.wanted o (yielded ops a.tmps)=Tt)(hd:∀c,o.op≠.defer c){args:Array Value}(hr:(execOp a.eval o).run P w=.ok (.enter f args) w'):
  step P (lone (b.atR a (.inRegion ops (i::rest)::k)) cs w)=.next (lone (Frame.enter P f args .normal) (b.atR a (.inRegion ops (i::rest)::k)::cs) w'):=by
 refine step_lone_go ?_;rw[stepGR_op ho hw,Q9 _ _ _ hd];simp_all[stepG.apply,Frame.atR]
theorem stepG_comm(ho:ops[i]? = So o)(hw:Region.wanted o (yielded ops a.tmps)=Tt)(hd:∀c,o.op≠.defer c){cases:Array CommCase}{bl:Bool}{sh:CommShape}(hr:(execOp a.eval o).run P w=.ok (.comm cases bl sh) w'):
  ∃es,stepG P Tt (_root_.Go.Conc.G (b.atR a (.inRegion ops (i::rest)::k)) cs) w=.comm (_root_.Go.Conc.G (b.atR a (.inRegion ops (i::rest)::k)) cs) cases bl sh w' es:=by
 have h:=stepGR_op (P:=P) (b:=b) (k:=k) (cs:=cs) (w:=w) (rest:=rest) ho hw;rw[Q9 _ _ _ hd]at h;have e:_root_.Go.Conc.G (b.atR a (.inRegion ops (i::rest)::k)) cs={frame:=b.atR a (.inRegion ops (i::rest)::k),callers:=cs,status:=.running,dying:=No}:=rfl;rw[e,h];simp[stepG.apply,hr];exact⟨_,rfl⟩
theorem RX(ho:ops[i]? = So o)(hw:Region.wanted o (yielded ops a.tmps)=Tt)(hd:∀c,o.op≠.defer c){l:Nat}{tmps:Array Value}{x y:Code}(hr:(execOp a.eval o).run P w=.ok (.round l f tmps x y) w'):
  step P (lone (b.atR a (.inRegion ops (i::rest)::k)) cs w)=.next (lone (Frame.round l f tmps x y .normal) (b.atR a (.inRegion ops (i::rest)::k)::cs) w'):=by
 refine step_lone_go ?_;rw[stepGR_op ho hw,Q9 _ _ _ hd];simp_all[stepG.apply]
end
def xP(P:Program)(kind:CallKind)(cs:List Frame)(f:FuncId)(args:Array Value)(w w':World)(v:Value):Prop :=
 ∃fr,Steps P (lone (Frame.enter P f args kind) cs w) (lone fr cs w')/\fr.fn=f/\fr.kind=kind/\fr.going P w' (.returned v)
def jD(P:Program)(cs:List Frame)(f:FuncId)(args:Array Value)(w w':World)(v:Value):Prop :=
 ∃fr,Steps P (lone (Frame.enter P f args .normal) cs w) (lone fr cs w')/\fr.fn=f/\fr.leaving P w' (.returned v)
theorem xP.to{args:Array Value}{v:Value}(h:xP P .normal cs f args w w' v):jD P cs f args w w' v:=by have⟨fr,h1,h2,h3,h4,h5,h6⟩:=h;exact⟨fr,h1,h2,h4,h5,h3,h6⟩
def mC(n0:Nat)(E:Env)(H:Array Obj)(st:St)(ds:List Deferred):Prop :=
 ds.Pairwise (·≠·)/\∀d∈ds,∃r,n0<=r/\d={target:=.collected r,args:=#[]}/\H[r]? = So (.deferred (So []))/\Un E st r
theorem mC.step(h:mC n0 E H st ds)(hs:Step E E' H H' st st'):mC n0 E' H' st' ds:=by refine⟨h.1,λd hd=>?_⟩;obtain⟨r,h0,rfl,hr,hn⟩:=h.2 d hd;have hlt:r<H.size:=(J9.1 hr).1;exact⟨r,h0,rfl,by rw[hs.fr.keep r hlt hn.1];grind,hs.un hlt hn⟩
def Marks(n0:Nat)(D:List Deferred)(E:Env)(H:Array Obj)(st:St)(ds:List Deferred):Prop :=
 ∃ms,ds=ms++D/\mC n0 E H st ms
theorem Marks.step{n0:Nat}{D:List Deferred}{E E':Env}{H H':Array Obj}{st st':St}{ds:List Deferred}(h:Marks n0 D E H st ds)(hs:Step E E' H H' st st'):Marks n0 D E' H' st' ds:=by have⟨ms,h1,h2⟩:=h;exact⟨ms,h1,h2.step hs⟩
theorem Marks.nil{n0:Nat}{D:List Deferred}{E:Env}{H:Array Obj}{st:St}:Marks n0 D E H st D:=⟨[],rfl,List.Pairwise.nil,λ_ h=>by grind⟩
def cL(P:Program)(cs:List Frame)(n0:Nat)(E:Env)(nt:Nat)(b:Frame)(w:World)(st:St)(m:Machine)(k:List Item):Out->Prop
 |.nx t st'=>∃E' a' w',aR E E' w w' st st'/\bX E' nt t a'.tmps/\Marks n0 b.defers E' w'.heap st' a'.defers/\Steps P m (lone (b.atR a' k) cs w')
 |.ex id t st'=>∃E' a' w',aR E E' w w' st st'/\bX E' nt t a'.tmps/\Marks n0 b.defers E' w'.heap st' a'.defers/\∀k',exitTo id k=So k'->Steps P m (lone (b.atR a' k') cs w')
 |.rt t st'=>b.roundOf=No->∃E' a' w' todo,aR E E' w w' st st'/\bX E' nt t a'.tmps/\Marks n0 b.defers E' w'.heap st' a'.defers/\Steps P m (lone {b.atR a' todo with mode:=.returning} cs w')
 |.no=>True
def zJ (P:Program):Prop:=∀(f:Nat) (fn:Func),P.funcs[f]? = So fn->(fn.name == "runtime.NumGoroutine")=Ff
theorem DM(h:bX E nt t a.tmps){r:Bool}(hg:gL ops t o=So r):Region.wanted o (yielded ops a.tmps)=r:=by
 unfold gL at hg;unfold Region.wanted;split at hg
 ·grind
 ·rename_i j want ho;rw[ho];simp only;unfold tj at hg;split at hg
  ·rename_i g hj;split at hg
   ·rename_i d hd;have hc:=h.2 d;unfold yielded;rw[hj];simp[hd];unfold ab at hc;have hget:∀v:Value,a.tmps.getD d undef=v->v≠undef->a.tmps[d]? = So v:=by
     intro v e hv;rw[J1]at e;grind
    have hund:a.tmps.getD d undef=undef->∀y,a.tmps[d]? = So y->y=undef:=by intro e y hx;simp_all
    cases ht:t.get d with
    |none=>rw[ht]at hg hc;cases hg;generalize hv:a.tmps.getD d undef=v at hc;cases hc;grind[undef]
    |some x=>
     rw[ht]at hg hc;unfold AB at hg;simp only at hg;cases hb:x.gH with
     |some bb=>have:=AV.xZ hb;subst this;generalize hv:a.tmps.getD d undef=v at hc;cases hc;rw[hget _ hv (by simp[undef])];simp_all
     |none=>
      rw[hb]at hg;cases hu:x.Ip with
      |false=>grind
      |true=>have:=AV.Yz hu;subst this;generalize hv:a.tmps.getD d undef=v at hc;cases hc;grind[undef]
   grind
  grind
theorem tM(h:bX E nt t a.tmps)(hp:dE nt t d v=So t'){z:Value}(hc:Conc E v z):bX E nt t' (a.put d z).tmps:=by
 cases d with
 |none=>cases hp;exact h
 |some d=>
  have⟨hlt,hp⟩:=dm hp;rw[AV.seen_eq]at hp;cases hp;have hlt':d<nt:=by simp_all
  refine⟨by simpa[Act.put]using h.1,λx=>?_⟩;unfold ab;rw[Tr.cW];simp[Act.put];by_cases e:x=d
  ·have:x<a.tmps.size:=by rw[h.1];grind
   grind
  ·have:=h.2 x;grind[ab,J1]
def Out.lim(n:Nat):Out->Prop
 |.nx _ st=>st.next<=n
 |.ex _ _ st=>st.next<=n
 |.rt _ st=>st.next<=n
 |.no=>True
structure bK(P:Program)(S:Self):Prop where
 ng:zJ P
 mixed:P.follows .mixedOrders=Tt
 up:fC S
 call:∀{ks:List Frame}{E:Env}{w:World}{st st':St}{f:FuncId}{az:List AV}{us:List Value}{v:AV},Rel E w.heap st->aH E az us->S.call f az st=So (v,st')->st'.next<=E.top->
  ∃E' w' cv,jD P ks f us.toArray w w' cv/\aR E E' w w' st st'/\Conc E' v cv
 code:∀{ks:List Frame}{E:Env}{w:World}{st:St}{nt:Nat}{c:Code}{t:Tr AV}{a:Act}{b:Frame} (k:List Item),b.roundOf.isSome=Tt->Rel E w.heap st->bX E nt t a.tmps->Marks 0 b.defers E w.heap st a.defers->
  (S.code nt c t st).lim E.top->cL P ks 0 E nt b w st (lone (b.atR a (.code c::k)) ks w) k (S.code nt c t st)
 dcall:∀{ks:List Frame}{E:Env}{w:World}{st st':St}{f:FuncId}{az:List AV}{us:List Value}{v:AV},Rel E w.heap st->aH E az us->S.dcall f az st=So (v,st')->st'.next<=E.top->
  ∃E' w' cv,xP P .deferred ks f us.toArray w w' cv/\aR E E' w w' st st'/\Conc E' v cv
theorem Fj{l:Nat}{r:Loop}(h:w.heap[l]? = So (.loop r)):(Instr.getLoop l).run P w=.ok r w:=by simp[Instr.getLoop,getObj,Sem.run,h]
theorem JI{l:Nat}{r:Loop}(h:w.heap[l]? = So (.loop r))(o:Obj):(setObj l o).run P w=.ok () {w with heap:=w.heap.setIfInBounds l o}:=by simp[setObj,Sem.run,h]
def TX(P:Program)(w w':World)(cv:Value)(r:Result Next):Prop :=
 ∃cases bl sh,r=.ok (.comm cases bl sh) w/\∀(fr:Frame) (cs:List Frame) (es:Array Event),stepG P Tt (_root_.Go.Conc.G fr cs) w=.comm (_root_.Go.Conc.G fr cs) cases bl sh w es->step P (lone fr cs w)=.next (lone (fr.finish cv) cs w')
def qz(P:Program)(fc:Frame)(ks:List Frame)(E:Env)(w:World)(st st':St)(v:AV)(r:Result Next):Prop :=
 ∃E' w' cv,aR E E' w w' st st'/\Conc E' v cv/\
  ((r=.ok (.value cv) w'\/(r=.ok .skip w'/\cv=undef))\/(∃f args,r=.ok (.enter f args) w/\jD P (fc::ks) f args w w' cv)\/
   (∃l f tmps x y,r=.ok (.round l f tmps x y) w/\Steps P (lone (Frame.round l f tmps x y .normal) (fc::ks) w) (lone (fc.finish cv) ks w'))\/TX P w w' cv r)
theorem om.c{r:Result Next}(h:om E w st st' v r):qz P fc ks E w st st' v r:=by have⟨E',w',cv,h1,h2,h3⟩:=h;exact⟨E',w',cv,h2,h3,.inl h1⟩
theorem Mp(hS:bK P S)(hr:Rel E w.heap st)(hc:aH E az us)(h:pP P S f az st=So (v,st'))(hn:st'.next<=E.top):
  ∃E' w' cv,aR E E' w w' st st'/\Conc E' v cv/\(callFunc f us.toArray).run P w=.ok (.enter f us.toArray) w/\jD P ks f us.toArray w w' cv:=by
 unfold pP at h;split at h
 ·rename_i fn hf;unfold CT at h;split at h
  ·rename_i c hb;obtain⟨E',w',cv,h1,h2,h3⟩:=hS.call hr hc h hn;refine⟨E',w',cv,h2,h3,?_,h1⟩;have hng':fn.name≠ "runtime.NumGoroutine":=by simpa using hS.ng f fn hf
   simp[callFunc,hf,hng',hb]
  grind
 grind
theorem SG{c:Nat}:∀(l:List Nat) (n:Nat),upto c l n=((List.range' n l.length).find? λi=>l[i-n]? == So c)
 |[],n=>rfl
 |x::l,n=>by
  have e:upto c (x::l) n=@Bool.rec (λ_=>Option Nat) (upto c l (n+1)) (So n) (Nat.beq x c):=rfl;rw[e,SG l (n+1)];simp only[List.length_cons,Z4,V6,Nat.sub_self,J4];cases hb:Nat.beq x c with
  |true=>simp_all
  |false=>
   have:¬x=c:=by rw[bh]at hb;simpa using hb
   have hx:(So x==So c)=false:=by simpa using this
   simp[hx];have hc:∀(m:Nat) (k:Nat),n+1<=k->((List.range' k m).find? λi=>l[i-(n+1)]? == So c)=(List.range' k m).find? λi=>(x::l)[i-n]? == So c:=by
    intro m;induction m with
    |zero=>intro k _;rfl
    |succ m ih=>
     intro k hk;simp[Z4,V6];rw[ih (k+1) (by omega)];have:(x::l)[k-n]? = l[k-(n+1)]?:=by rw[show k-n=(k-(n+1))+1 by omega];simp
     rw[this]
   exact hc l.length (n+1) (Q0 _)
theorem Xn (h1:fn.name = "internal/bytealg.IndexByteString") (h2:fn.origin = ""):Extern.findNext fn=No/\Extern.find fn=So Extern.BytealgIndexByte.indexByte:=by
 have a1:Extern.allGenericRows.lookup "internal/bytealg.IndexByteString"=none:=by kernel_rfl
 have a2:Extern.allTypedRows.lookup "internal/bytealg.IndexByteString"=none:=by kernel_rfl
 have a3:Extern.allRows.lookup "internal/bytealg.IndexByteString"=So Extern.BytealgIndexByte.indexByte:=by kernel_rfl
 have a4:Extern.allNextRows.lookup "internal/bytealg.IndexByteString"=none:=by kernel_rfl
 have a5:Extern.allNextRows.lookup ""=none:=by kernel_rfl
 grind[Extern.findNext,Extern.find]
theorem Xr(bs:ByteArray){c:Nat}(hc:c<256):firstIdx bs c.toUInt8=(match upto c (bs.data.toList.map UInt8.toNat) 0 with|some n=>Int.ofNat n|none=>-1):=by
 unfold firstIdx;rw[SG];have e:((List.range bs.size).find? λi=>bs[i]! == c.toUInt8)=((List.range' 0 (bs.data.toList.map UInt8.toNat).length).find? λi=>(bs.data.toList.map UInt8.toNat)[i-0]? == So c):=by
  rw[List.range_eq_range',show(bs.data.toList.map UInt8.toNat).length=bs.size by simp_all];have key:∀(l:List Nat),(∀i∈l,i<bs.size)->(l.find? λi=>bs[i]! == c.toUInt8)=l.find? λi=>(bs.data.toList.map UInt8.toNat)[i-0]? == So c:=by
   intro l hl;induction l with
   |nil=>rfl
   |cons i l ih=>
    have hi:=hl i (List.mem_cons_self ..);have hp:(bs[i]! == c.toUInt8)=((bs.data.toList.map UInt8.toNat)[i-0]? == So c):=by
     have hi':i<bs.data.size:=hi;have h1:bs[i]! = bs.data[i]:=by rw[getElem!_pos bs i hi];rfl
     have h3:((bs.data[i]).toNat==c)=(bs.data[i]==c.toUInt8):=by
      rw[Bool.eq_iff_iff];simp;constructor
      ·intro h;apply UInt8.toNat_inj.1;rw[h];simp[J8 hc]
      ·intro h;rw[h];simp[J8 hc]
     grind
    grind
  grind
 grind
theorem WI (hng:(fn.name == "runtime.NumGoroutine")=Ff) (hf:P.funcs[f]? = So fn) (hb:fn.body=No) (hr:Rel E w.heap st) (hc:aH E az us) (hnm:fn.name = "internal/bytealg.IndexByteString"/\fn.origin = "") (h:Dr st az=So (v,st')):
  qz P fc ks E w st st' v ((callFunc f us.toArray).run P w):=by
 have⟨k1,k2⟩:=Xn hnm.1 hnm.2;have hrun:=λargs=>run_callFunc_extern hf hng (by grind) k1 k2 args w
 unfold Dr at h;split at h
 case h_2=>grind
 rename_i l c;have⟨hlt,h⟩:=dm h;have hlt':c<256:=by simp_all
 cases hc with
 |cons _ _ u us hu ht=>
  cases ht with
  |cons _ _ u2 us2 hu2 ht2=>
   cases ht2;cases hu;cases hu2;rename_i bs hh2;have h1:=run_indexByte_string (P:=P) bs (Int.ofNat c) w;have h2:(Int.ofNat c).toNat.toUInt8=c.toUInt8:=rfl;rw[h2,Xr bs hlt']at h1;unfold HI at h;split at h
   ·cases h;exact om.c ⟨E,w,_,.inl (by simp_all),.refl hr,.i _ _⟩
   ·cases h;exact om.c ⟨E,w,_,.inl (by simp_all),.refl hr,.i _ _⟩
theorem Xo (h1:fn.name = "internal/abi.NoEscape") (h2:fn.origin = ""):Extern.findNext fn=No/\Extern.find fn=So Extern.AbiNoEscape.same:=by
 have a1:Extern.allGenericRows.lookup "internal/abi.NoEscape"=none:=by kernel_rfl
 have a2:Extern.allTypedRows.lookup "internal/abi.NoEscape"=none:=by kernel_rfl
 have a3:Extern.allRows.lookup "internal/abi.NoEscape"=So Extern.AbiNoEscape.same:=by kernel_rfl
 have a4:Extern.allNextRows.lookup "internal/abi.NoEscape"=none:=by kernel_rfl
 have a5:Extern.allNextRows.lookup ""=none:=by kernel_rfl
 constructor
 ·simp only[Extern.findNext,h1,h2,a4,a5,Q8];rfl
 ·simp only[Extern.find,h1,h2,a1,a2,a3,Q8];rfl
theorem Xl (h1:fn.name = "internal/bytealg.MakeNoZero") (h2:fn.origin = ""):Extern.findNext fn=No/\Extern.find fn=So (Extern.BytealgMakeNoZero.makeNoZero fn.params fn.resultTypes):=by
 have a1:Extern.allGenericRows.lookup "internal/bytealg.MakeNoZero"=none:=by kernel_rfl
 have a2:Extern.allTypedRows.lookup "internal/bytealg.MakeNoZero"=So Extern.BytealgMakeNoZero.makeNoZero:=by kernel_rfl
 have a4:Extern.allNextRows.lookup "internal/bytealg.MakeNoZero"=none:=by kernel_rfl
 have a5:Extern.allNextRows.lookup ""=none:=by kernel_rfl
 constructor
 ·simp only[Extern.findNext,h1,h2,a4,a5,Q8];rfl
 ·simp only[Extern.find,h1,h2,a1,a2,Q8,Option.map_some];rfl
theorem LO:∀us:List Value,aH E (rep us.length [AV.bad]) us
 |[]=>.nil
 |u::us=>.cons _ _ _ _ (.bad u) (LO us)
theorem WH(hr:Rel E w.heap st)(hc:aH E az us)(h:Dq P fn st az=So (v,st'))(hn:st'.next<=E.top):
  ∃E' w' z,(Extern.BytealgMakeNoZero.makeNoZero fn.params fn.resultTypes us.toArray).run P w=.ok z w'/\aR E E' w w' st st'/\Conc E' v z:=by
 unfold Dq at h;split at h
 case h_2=>grind
 rename_i n;split at h
 case h_2=>grind
 rename_i t hrt;have hrt':fn.resultTypes = #[t]:=Z0.1 hrt;unfold HH at h;split at h
 case h_2=>grind
 rename_i e hu;have⟨hk,h⟩:=dm h;cases h;simp only[Q4]at hk;have hle:n<=1048576:=J5 hk.2;cases hc with|cons _ _ u us hu1 t1=>
 cases t1;cases hu1;rw[hrt'];obtain⟨cs,h1,h2,-⟩:=Lib.run_makeNoZero (P:=P) w fn.params t e hu n (by omega);have hn1:st.next+2<=E.top:=hn;have hlen:(rep n [AV.bad]).length=n:=by rw[yS];simp
 have hcc:aH E (rep n [AV.bad]) (cs.toList.take n):=by have:=LO (E:=E) (cs.toList.take n);grind
 have s1:=Step.aj hr (show st.next<E.top by omega) (rep n [AV.bad]) cs.toList e (0,0) (.inl rfl) (by grind) (by grind);have hheap:(w.drew.drew.alloc (.cells cs e)).heap=w.heap.push (.cells cs.toList.toArray e (0,0)):=rfl;have hty:nj (E.bind st.next ⟨w.heap.size,0,cs.toList.length⟩) (w.heap.push (.cells cs.toList.toArray e (0,0))) e st.next true:=⟨_,Env.df,λ_=>rfl,cs.toList.toArray,(0,0),by simp⟩;have s2:=Step.Ej s1.rel hty;refine⟨E.bind st.next ⟨w.heap.size,0,cs.toList.length⟩,_,_,h1,⟨?_,rfl,rfl⟩,?_⟩
 ·exact s1.trans s2
 ·refine .slu _ _ _ _ _ _ h2 ⟨_,Env.df,.inr (by simp),?_⟩;simp
theorem WE (hng:(fn.name == "runtime.NumGoroutine")=Ff) (hf:P.funcs[f]? = So fn) (hb:fn.body=No) (hr:Rel E w.heap st) (hc:aH E az us) (h:Dp P fn st az=So (v,st')) (hn:st'.next<=E.top):
  qz P fc ks E w st st' v ((callFunc f us.toArray).run P w):=by
 unfold Dp at h;cases h1:(fn.name == "internal/bytealg.IndexByteString"&&fn.origin == "")with
 |true=>rw[h1]at h;exact WI hng hf hb hr hc (by grind) h
 |false=>
  rw[h1]at h;unfold Ni at h;cases h2:(fn.name == "internal/abi.NoEscape"&&fn.origin == "")with
  |true=>
   rw[h2]at h;have h2':fn.name = "internal/abi.NoEscape"/\fn.origin = "":=by grind
   have⟨k1,k2⟩:=Xo h2'.1 h2'.2;have hrun:=run_callFunc_extern hf hng (by grind) k1 k2 us.toArray w;unfold HJ at h;split at h
   ·cases h;cases hc with|cons _ _ u us hu t=>cases t;have hs:(Extern.AbiNoEscape.same [u].toArray).run P w=.ok u w:=Lib.run_noEscape w u;exact om.c ⟨E,w,u,.inl (by simp_all),.refl hr,hu⟩
   grind
  |false=>
   rw[h2]at h;have⟨h3,h⟩:=dm h;have h3':fn.name = "internal/bytealg.MakeNoZero"/\fn.origin = "":=by grind
   have⟨k1,k2⟩:=Xl h3'.1 h3'.2;have hrun:=run_callFunc_extern hf hng (by grind) k1 k2 us.toArray w;have⟨E',w',z,g1,g2,g3⟩:=WH hr hc h hn;exact om.c ⟨E',w',z,.inl (by simp_all),g2,g3⟩
theorem Vl(hS:bK P S)(hr:Rel E w.heap st)(hc:aH E az us)(h:pN P S f az st=So (v,st'))(hn:st'.next<=E.top):
  qz P fc ks E w st st' v ((callFunc f us.toArray).run P w):=by
 unfold pN at h;split at h
 case h_2=>grind
 rename_i fn hf;unfold CU at h;split at h
 ·have h0:pP P S f az st=So (v,st'):=by
   unfold pP CT;grind
  have⟨E',w',cv,h1,h2,h3,h4⟩:=Mp (ks:=fc::ks) hS hr hc h0 hn;exact⟨E',w',cv,h1,h2,.inr (.inl ⟨f,us.toArray,h3,h4⟩)⟩
 ·rename_i hb;exact WE (hS.ng f fn hf) hf hb hr hc h hn
theorem Rx{nt:Nat}:∀{ps:List Tmp}{vs:List AV}{us:List Value}{t t':Tr AV}{a:Array Value},Fo nt ps vs t=So t'->aH E vs us->bX E nt t a->
  ps.length=us.length/\bX E nt t' ((ps.zip us).foldl (λtmps (x:Tmp×Value)=>tmps.setIfInBounds x.1 x.2) a)
 |[],[],us,t,t',a,h,hc,ha=>by cases hc;cases h;simp_all
 |p::ps,v::vs,us,t,t',a,h,hc,ha=>by
  cases hc with
  |cons _ _ u us hu hus=>have⟨hlt,h⟩:=dm h;have:=tM (a:={tmps:=a,defers:=[]}) (d:=So p) ha (by show(@Bool.rec (λ_=>Option (Tr AV)) No (v.seen λv=>So (t.set p (So v))) (Nat.blt p nt))=_;rw[hlt,AV.seen_eq]) hu;have⟨k1,k2⟩:=Rx h hus this;exact⟨by grind,by simpa[Act.put]using k2⟩
 |[],_::_,us,t,t',a,h,hc,ha=>by cases h
 |_::_,[],us,t,t',a,h,hc,ha=>by cases h
theorem abY(hS:bK P S)(hr:Rel E w.heap st){l:Nat}{B:eo}(hB:E.phi l=So B)(hc:aH E az us)(h:round S l az st=So (v,st'))(hn:st'.next<=E.top):
  qz P fc ks E w st st' v ((Instr.yield B.b us.toArray).run P w):=by
 unfold round at h;split at h
 case h_2=>grind
 rename_i t nt ps x y hg;split at h
 case h_2=>grind
 rename_i t' ht;have ha:st.alive l=So (.lp t nt ps x y):=by unfold St.alive;grind
 have⟨B',hB',f,tmps,d,hH,hT⟩:=hr.rows _ _ ha;rw[hB]at hB';cases hB';have hce:∀l' g,Row.lp t nt ps x y≠.ce l' g:=λ_ _ e=>by grind
 have hun:=MU hr ha hce hB;have hs1:=Step.drop hr l;have hlt:B.b<w.heap.size:=(J9.1 hH).1;have⟨hlen,hT'⟩:=Rx ht hc hT;unfold JG at h;split at h
 case h_2=>grind
 rename_i t2 st2 h2;unfold Fg at h;split at h
 case h_2=>grind
 rename_i t3 st3 h3;cases h;have hn3:st3.next<=E.top:=hn;have hup:=(hS.up.code nt y t2 st2).1 _ _ h3;have hup2:=(hS.up.code nt x t' (st.drop l)).1 _ _ h2;have hup2':st.next<=st2.next:=hup2
 let tmps':=(ps.zip us).foldl (λtmps (x:Tmp×Value)=>tmps.setIfInBounds x.1 x.2) tmps
 let fb:Frame:={fn:=f,tmps:=tmps',todo:=[],defers:=[],mode:=.run,kind:=.normal,roundOf:=So B.b}
 have hmk:Marks 0 fb.defers E w.heap (st.drop l) []:=Marks.nil;have hl2:(S.code nt x t' (st.drop l)).lim E.top:=by rw[h2];exact(by show st2.next<=E.top;omega)
 have hA:=hS.code (ks:=fc::ks) (st:=st.drop l) (nt:=nt) (a:={tmps:=tmps',defers:=[]}) (b:=fb) [.beginRound,.code y] rfl hs1.rel hT' hmk hl2;simp[h2,cL]at hA;have⟨E2,a2,w2,s2,c2,m2,g2⟩:=hA;have hk2:w2.heap[B.b]? = _:=(s2.fr.keep _ hlt hun.1).trans hH;have hs2:aR E E2 w w2 st st2:=⟨hs1.trans s2.toStep,s2.os,s2.out⟩;have hun2:Un E2 st2 B.b:=s2.un hlt hun;have how:jh E st B.b:=⟨l,_,B,ha,hB,rfl⟩
 let lpB:Obj:=.loop {state:=.busy,pending:=No,fn:=f,tmps,params:=ps.toArray,assign:=x,body:=y,defers:=d}
 let w2':World:={w2 with heap:=w2.heap.setIfInBounds B.b lpB}
 have hs2':aR E E2 w w2' st st2:=⟨hs2.toStep.yK (.inl how) hun2 lpB (dZ.zd (by grind)),s2.os,s2.out⟩;have hbeg:(Instr.beginRound B.b).run P w2=.ok () w2':=by simp[Instr.beginRound,Q1,Fj hk2,Q2,JI hk2,w2',lpB]
 have hk2':w2'.heap[B.b]? = So lpB:=by grind
 have hmk2:Marks 0 fb.defers E2 w2'.heap st2 a2.defers:=by have⟨ms,hms,m2⟩:=m2;refine⟨ms,hms,m2.1,λe he=>?_⟩;have⟨r,h0,h1,h2,h3⟩:=m2.2 e he;grind
 have hl3:(S.code nt y t2 st2).lim E2.top:=by rw[h3,s2.top];exact hn3
 have hA3:=hS.code (ks:=fc::ks) (w:=w2') (st:=st2) (nt:=nt) (c:=y) (t:=t2) (a:=a2) (b:=fb) [] rfl hs2'.rel c2 hmk2 hl3;simp[h3,cL]at hA3;have⟨E3,a3,w3,s3,c3,m3,g3⟩:=hA3;have hlt2':B.b<w2'.heap.size:=by grind
 have hk3:w3.heap[B.b]? = So lpB:=(s3.fr.keep _ hlt2' hun2.1).trans hk2';have hun3:Un E3 st3 B.b:=s3.un hlt2' hun2;have hlt3:B.b<w3.heap.size:=Nat.lt_of_lt_of_le hlt2' s3.fr.size
 let lp0:Obj:=.loop {state:=.ready,pending:=No,fn:=f,tmps,params:=ps.toArray,assign:=x,body:=y,defers:=d}
 let w4:World:={w3 with heap:=w3.heap.setIfInBounds B.b lp0}
 have hend:(Instr.endRound B.b No).run P w3=.ok (.bool Tt) w4:=by simp[Instr.endRound,Q1,Fj hk3,Q2,JI hk3,w4,lp0]
 have hs4:aR E E3 w w4 st st3:=⟨(hs2'.trans s3).toStep.yK (.inl how) hun3 lp0 (dZ.zd (λ_ _ _ e=>by grind)),(hs2'.trans s3).os,(hs2'.trans s3).out⟩;have hB3:E3.phi l=So B:=(hs2'.trans s3).le.phi _ _ hB;have hs5:aR E E3 w w4 st (st3.put l (.lp t nt ps x y)):=by
  refine⟨hs4.toStep.T6 hce ?_ hB3 ⟨f,tmps,d,?_,hT.mono (hs2'.trans s3).le⟩ (.inl how) hun3,hs4.os,hs4.out⟩
  ·have:l<st.next:=hr.zS ha;omega
  grind
 refine⟨E3,w4,.bool Tt,hs5,.b Tt,.inr (.inr (.inl ⟨B.b,f,tmps',x,y,?_,?_⟩))⟩
 ·have hsz:us.length=ps.length:=hlen.symm;simp[Instr.yield,Q1,Fj hH,Q2,hsz,tmps']
 ·refine g2.trans ?_;refine(Q3 (stepR_beginRound rfl hbeg)).trans ?_;refine g3.trans ?_;grind[Q3,stepR_round_end]
section
theorem Vm(hS:bK P S)(hr:Rel E w.heap st)(hx:Conc E x u)(hc:aH E az us)(h:sY P S st az x=So (v,st'))(hn:st'.next<=E.top):
  qz P fc ks E w st st' v ((do let d <-Deferred.ofValue u us.toArray;invoke d.target d.args:Sem Next).run P w):=by
 unfold sY at h;split at h
 ·cases hx with
  |f _ _ _ vx vy _ hvx hvy=>have:=Vl (fc:=fc) (ks:=ks) hS hr (hvx.append (hc.append hvy)) h hn;grind[Deferred.ofValue,invoke]
 ·cases hx with
  |f _ _ _ _ _ hy _ _=>cases hy
  |yi _ B hB=>grind[abY,Deferred.ofValue,invoke]
 grind
theorem IU(hS:bK P S)(h:Rel E w.heap st)(hρ:∀x,Conc E (ah t x) (ρ x))(ho:cC P S t st o=So (v,st'))(hn:st'.next<=E.top):
  qz P fc ks E w st st' v ((execOp ρ o).run P w):=by
 cases hc:DJ o.op with
 |false=>exact(aaE h hρ ho hn hc).c
 |true=>
  unfold DJ at hc;split at hc
  case h_2=>grind
  rename_i c hop;unfold cC at ho;rw[hop]at ho;have ho:rG c P S t st=So (v,st'):=ho;unfold rG at ho;simp only[execOp,hop,resolve];have ha:aH E (args t c.args.toList) (c.args.toList.map ρ):=uF hρ c.args.toList;grind[Vm,yy]
variable {b:Frame}
theorem DH(ho:ops[i]? = So o)(hw:Region.wanted o (yielded ops a.tmps)=Tt)(hd:∀c,o.op≠.defer c)(h:qz P (b.atR a (.inRegion ops (i::rest)::k)) ks E w st st' v ((execOp a.eval o).run P w)):
  ∃E' w' cv,aR E E' w w' st st'/\Conc E' v cv/\Steps P (lone (b.atR a (.inRegion ops (i::rest)::k)) ks w) (lone (b.atR (a.put o.dst cv) (.inRegion ops rest::k)) ks w'):=by
 have⟨E',w',cv,hs,hc,h⟩:=h;refine⟨E',w',cv,hs,hc,?_⟩;have hf:=Z3 b a ops i rest k cv;rcases h with (h|⟨h,rfl⟩)|⟨f,az,h,hcall⟩|⟨l,f,tmps,x,y,h,hround⟩|⟨cases,bl,sh,h,htell⟩
 ·exact Q3 (BQ ho hw hd h)
 ·grind[Q3,JW]
 ·refine(Q3 (RW ho hw hd h)).trans ?_;have⟨fr,h1,h2,h3⟩:=hcall;refine h1.trans ?_;grind[Q3,step_leave_returned]
 ·refine(Q3 (RX ho hw hd h)).trans ?_;grind
 ·have⟨es,he⟩:=stepG_comm (b:=b) (k:=k) (cs:=ks) (rest:=rest) ho hw hd h;grind[Q3]
theorem Eu(ho:cC P S t st o=So (v,st')):∀c,o.op≠.defer c:=by intro c hop;unfold cC at ho;rw[hop]at ho;cases ho
end
theorem put_defers(a:Act)(d:Option Tmp)(v:Value):(a.put d v).defers=a.defers:=by cases d<;>rfl
theorem Lw{acc:List Nat}:∀{l:List Edge}{m:Nat},ahead acc l=So m->
  (∀e∈l,Region.binds .any e=Tt->e.on<acc.length)/\∀i,m.testBit i=Tt->∃e∈l,Region.binds .any e=Tt/\(i=e.on\/(aV acc e.on).testBit i=Tt)
 |[],m,h=>by cases h;grind
 |e::l,m,h=>by
  unfold ahead at h;cases ha:ahead acc l with
  |none=>grind
  |some m'=>
   rw[ha]at h;have⟨h1,h2⟩:=Lw ha;cases hb:Region.binds .any e with
   |false=>grind
   |true=>
    rw[hb]at h;cases hk:acc[e.on]? with
    |none=>grind
    |some k=>
     rw[hk]at h;cases h;refine⟨λx hx hbx=>?_,λi hi=>?_⟩
     ·grind
     ·have hi':(m' ||| (2 ^ e.on ||| k)).testBit i=true:=hi;grind[aV]
theorem CM:∀{l:List Oper}{acc bs:List Nat},kJ l acc=So bs->bs.length=acc.length+l.length/\(∀i,i<acc.length->bs[i]? = acc[i]?)/\
  ∀j o,l[j]? = So o->(∀e∈o.after,Region.binds .any e=Tt->e.on<acc.length+j)/\
   ∀i,(aV bs (acc.length+j)).testBit i=Tt->∃e∈o.after,Region.binds .any e=Tt/\(i=e.on\/(aV bs e.on).testBit i=Tt)
 |[],acc,bs,h=>by cases h;grind
 |o::l,acc,bs,h=>by
  unfold kJ at h;cases ha:ahead acc o.after.toList with
  |none=>grind
  |some m=>
   rw[ha]at h;have⟨h1,h2,h3⟩:=CM h;have⟨k1,k2⟩:=Lw ha;have hpre:∀i,i<acc.length->bs[i]? = acc[i]?:=λi hi=>by grind
   refine⟨by grind,hpre,λj x hx=>?_⟩;cases j with
   |zero=>
    have:o=x:=by simpa using hx
    subst this;refine⟨λe he hb=>k1 e (by simpa using he) hb,λi hi=>?_⟩;have hm:bs[acc.length]? = So m:=by rw[h2 _ (by simp)];simp
    rw[Nat.add_zero]at hi;unfold aV at hi;rw[hm]at hi;have⟨e,he,hb,hh⟩:=k2 i hi;refine⟨e,by simpa using he,hb,hh.imp id λhh=>?_⟩;have:=k1 e he hb;unfold aV at hh|-;rw[hpre _ this];exact hh
   |succ j=>
    have hx':l[j]? = So x:=by simpa using hx
    have:=h3 j x hx';grind
theorem Qg{ops:Array Oper}{bs:List Nat}{y:Oper}{bj:Nat}:∀{l:List Oper}{k:Nat},Bl ops bs y bj l k=Tt->∀i x,l[i]? = So x->
  yH ops x y (bj.testBit (k+i))=Tt/\Dg ops bs x y (k+i) (bj.testBit (k+i))=Tt
 |[],k,h,i,x,hx=>by grind
 |z::l,k,h,i,x,hx=>by
  unfold Bl at h;simp at h;cases i with
  |zero=>
   have:z=x:=by simpa using hx
   subst this;simpa using h.1
  |succ i=>
   have:=Qg h.2 i x (by simpa using hx);have e:k+1+i=k+(i+1):=by omega
   rw[e]at this;exact this
theorem Ht{ops:Array Oper}{all:List Nat}:∀{l done:List Oper}{bs:List Nat},uX ops all done l bs=Tt->∀j y b,l[j]? = So y->bs[j]? = So b->Io y.op=Ff/\Bl ops all y b (done++l.take j) 0=Tt
 |[],done,bs,h,j,y,b,hy,hb=>by grind
 |z::l,done,[],h,j,y,b,hy,hb=>by grind
 |z::l,done,c::bs,h,j,y,b,hy,hb=>by
  unfold uX at h;simp at h;cases j with
  |zero=>
   have e1:z=y:=by simpa using hy
   have e2:c=b:=by simpa using hb
   subst e1;subst e2;simpa using h.1
  |succ j=>have:=Ht h.2 j y b (by simpa using hy) (by simpa using hb);simpa using this
theorem QR{ops:Array Oper}{y:Oper}{i:Nat}:∀{l:List Oper}{bs:List Nat},EZ ops y i l bs=Tt->∀(h:Nat) (o:Oper) (b:Nat),l[h]? = So o->bs[h]? = So b->∀d,y.dst=So d->d∈o.looksAt ops->b.testBit i=Tt
 |[],bs,_,h,o,b,ho,hb=>by grind
 |z::l,[],_,h,o,b,ho,hb=>by grind
 |z::l,c::bs,hr,h,o,b,ho,hb=>by
  intro d hd hmem;unfold EZ at hr;simp only[Q4]at hr;cases h with
  |zero=>
   have e1:z=o:=by simpa using ho
   have e2:c=b:=by simpa using hb
   subst e1;subst e2;have:=hr.1;rw[hd]at this;simp only[List.contains_iff_mem.2 hmem,cond_true]at this;exact this
  |succ h=>exact QR hr.2 h o b (by simpa using ho) (by simpa using hb) d hd hmem
structure ot(ops:Array Oper)(bs:List Nat):Prop where
 nosel:∀(j:Nat) (o:Oper),ops[j]? = So o->Io o.op=Ff
 edge:∀j o,ops[j]? = So o->∀e∈o.after,Region.binds .any e=Tt->e.on<j
 bef:∀j o i,ops[j]? = So o->(aV bs j).testBit i=Tt->∃e∈o.after,Region.binds .any e=Tt/\(i=e.on\/(aV bs e.on).testBit i=Tt)
 pair:∀i j x y,i<j->ops[i]? = So x->ops[j]? = So y->yH ops x y ((aV bs j).testBit i)=Tt
 early:∀i j x y,i<j->ops[i]? = So x->ops[j]? = So y->kind x.op=3->kind y.op=2->(aV bs j).testBit i=Ff->∀h o,ops[h]? = So o->∀d,y.dst=So d->d∈o.looksAt ops->(aV bs h).testBit i=Tt
theorem settled(hb:kJ ops.toList []=So bs)(hd:uX ops bs [] ops.toList bs=Tt):ot ops bs:=by
 have⟨h1,h2,h3⟩:=CM hb;have hl:∀(j:Nat) (o:Oper),ops[j]? = So o->ops.toList[j]? = So o:=λj o h=>by grind
 have hbs:∀(j:Nat) (o:Oper),ops[j]? = So o->bs[j]? = So (aV bs j):=λj o h=>by grind[aV]
 have hp:∀(i j:Nat) (x y:Oper),i<j->ops[i]? = So x->ops[j]? = So y->yH ops x y ((aV bs j).testBit i)=Tt/\Dg ops bs x y i ((aV bs j).testBit i)=true:=by intro i j x y hij hx hy;have:=(Ht hd j y _ (hl j y hy) (hbs j y hy)).2;have:=Qg this i x (by grind);grind
 refine⟨λj o ho=>(Ht hd j o _ (hl j o ho) (hbs j o ho)).1,λj o ho e he hb=>by simpa using(h3 j o (hl j o ho)).1 e he hb,λj o i ho hi=>(h3 j o (hl j o ho)).2 i (by simpa using hi),λi j x y hij hx hy=>(hp i j x y hij hx hy).1,?_⟩;intro i j x y hij hx hy kx ky hno h o ho d hd hmem;have:=(hp i j x y hij hx hy).2;unfold Dg at this;rw[kx,ky,hno]at this;exact QR this h o _ (hl h o ho) (hbs h o ho) d hd hmem
theorem Gx{b p:Nat}:∀{l:List Nat}{k:Nat},zU b p l k=Tt->∃i,l[i]? = So 3/\p<=k+i/\b.testBit (k+i)=Tt
 |[],k,h=>by simp[zU]at h
 |x::l,k,h=>by
  unfold zU at h;simp at h;rcases h with ⟨h1,h2,h3⟩|h
  ·refine⟨0,?_,by simp_all,by grind⟩;simp_all
  ·have⟨i,k1,k2,k3⟩:=Gx h;exact⟨i+1,by grind,by omega,by grind⟩
theorem GY{p j:Nat}:∀{l:List Nat}{k:Nat},calm p j l k=Tt->∀i x,l[i]? = So x->p<=k+i->k+i<j->x<2
 |[],k,h,i,x,hx,_,_=>by grind
 |y::l,k,h,i,x,hx,hp,hj=>by
  unfold calm at h;simp at h;cases i with
  |zero=>grind[J6,Nat.ble_eq]
  |succ i=>exact GY h.2 i x (by grind) (by omega) (by omega)
theorem JV:∀{l:List Nat}{k i:Nat},l[i]? = So 3->k+i+1∈qg l k
 |[],k,i,h=>by grind
 |x::l,k,0,h=>by simp_all[qg]
 |x::l,k,i+1,h=>by have:=JV (k:=k+1) (i:=i) (l:=l) (by grind);grind[qg]
theorem HT{ks bs ps:List Nat}:∀{l:List Nat}{k j p:Nat},l[j]? = So 1->p∈ps->pinned ks bs (k+j) p=Ff->(k+j,p)∈tf ks bs ps l k
 |[],k,j,p,h,_,_=>by grind
 |x::l,k,0,p,h,hp,hn=>by grind[tf,Nat.beq]
 |x::l,k,j+1,p,h,hp,hn=>by have:=HT (ks:=ks) (bs:=bs) (l:=l) (k:=k+1) (j:=j) (by grind) hp (by grind);grind[tf]
def abN:Rec:=⟨.lf,⟨.lf,.lf,0⟩,.un,Ff⟩
def recAt(R:List Rec)(i:Nat):Rec:=match R[i]? with|some r=>r|none=>abN
def zN(P:Program)(S:Self)(nt:Nat)(ops:Array Oper)(o:Oper)(r r':Rec):Prop :=
 gL ops r.t o=So r.w/\dE nt r.t o.dst r.v=So r'.t/\(r.w=Ff->r.v=.un/\r'.st=r.st)/\(r.w=Tt->cC P S r.t r.st o=So (r.v,r'.st))
theorem Fa{P:Program}{S:Self}{nt:Nat}{ops:Array Oper}:∀{l:List Oper}{t:Tr AV}{st:St}{R:List Rec},cj P S nt ops l t st=So R->
  R.length=l.length+1/\(recAt R 0).t=t/\(recAt R 0).st=st/\∀i o,l[i]? = So o->zN P S nt ops o (recAt R i) (recAt R (i+1))
 |[],t,st,R,h=>by cases h;exact⟨rfl,rfl,rfl,λi o h=>by grind⟩
 |o::l,t,st,R,h=>by
  have cons:∀{r:Rec}{t':Tr AV}{st':St}{k:Option (List Rec)},tF r k=So R->r.t=t->r.st=st->(∀R',k=So R'->R'.length=l.length+1/\(recAt R' 0).t=t'/\(recAt R' 0).st=st'/\∀i o,l[i]? = So o->zN P S nt ops o (recAt R' i) (recAt R' (i+1)))->
    (∀r':Rec,r'.t=t'->r'.st=st'->zN P S nt ops o r r')->
    R.length=(o::l).length+1/\(recAt R 0).t=t/\(recAt R 0).st=st/\∀i x,(o::l)[i]? = So x->zN P S nt ops x (recAt R i) (recAt R (i+1)):=by
   intro r t' st' k hk ht hst hR hok;cases k with
   |none=>cases hk
   |some R'=>
    cases hk;have⟨k1,k2,k3,k4⟩:=hR R' rfl;refine⟨by grind,ht,hst,λi x hx=>?_⟩;cases i with
    |zero=>
     have:o=x:=by grind
     subst this;exact hok _ k2 k3
    |succ i=>exact k4 i x (by grind)
  unfold cj at h;split at h
  ·rename_i hg;unfold rT at h;split at h
   ·rename_i v st' hv;unfold lL at h;split at h
    ·rename_i t' hp;exact cons h rfl rfl (λR' hR'=>Fa hR') λr' e1 e2=>⟨hg,(by grind),λh=>(by grind),λ_=>(by rw[e2];exact hv)⟩
    grind
   grind
  ·rename_i hg;unfold lL at h;split at h
   ·rename_i t' hp;exact cons h rfl rfl (λR' hR'=>Fa hR') λr' e1 e2=>⟨hg,(by grind),λ_=>⟨rfl,e2⟩,λh=>(by cases h)⟩
   ·cases h
  grind
theorem Iu:∀{R:List Rec}{n:Nat},R.length=n+1->jQ R=.nx (recAt R n).t (recAt R n).st
 |[],n,h=>by grind
 |[r],n,h=>by
  have:n=0:=by grind
  subst this;rfl
 |r::q::l,n,h=>by
  cases n with
  |zero=>grind
  |succ n=>have:=Iu (R:=q::l) (n:=n) (by grind);exact this
section
variable {b:Frame}
theorem cL.pre{E1:Env}{w1:World}{m:Machine}{r:Out}(hs:aR E E1 w w1 st st1)(hm:Steps P m m1)(h:cL P ks n0 E1 nt b w1 st1 m1 k r):
  cL P ks n0 E nt b w st m k r:=by
 cases r with
 |nx t st'=>have⟨E',a',w',h1,h2,h3,h4⟩:=h;exact⟨E',a',w',hs.trans h1,h2,h3,hm.trans h4⟩
 |ex id t st'=>have⟨E',a',w',h1,h2,h3,h4⟩:=h;exact⟨E',a',w',hs.trans h1,h2,h3,λk' hk=>hm.trans (h4 k' hk)⟩
 |rt t st'=>intro hb;have⟨E',a',w',todo,h1,h2,h3,h4⟩:=h hb;exact⟨E',a',w',todo,hs.trans h1,h2,h3,hm.trans h4⟩
 |no=>trivial
theorem cL.gW{m:Machine}{r:Out}(hr:Rel E w.heap st)(hm:step P m=.next m1)(h:cL P ks n0 E nt b w st m1 k r):
  cL P ks n0 E nt b w st m k r:=cL.pre (.refl hr) (Q3 hm) h
theorem wM{r:Out}(h:dw st1 r)(hl:r.lim n):r=.no\/st1.next<=n:=by
 cases r with
 |nx t st'=>exact .inr (Q5 (h.1 _ _ rfl) hl)
 |ex i t st'=>exact .inr (Q5 (h.2.1 _ _ _ rfl) hl)
 |rt t st'=>exact .inr (Q5 (h.2.2 _ _ rfl) hl)
 |no=>grind
theorem IV(hS:bK P S):∀(l:List Oper) (i:Nat),ops.toList.drop i=l->∀{E:Env}{w:World}{st:St}{t:Tr AV}{a:Act},Rel E w.heap st->bX E nt t a.tmps->Marks n0 b.defers E w.heap st a.defers->
  (bw P S nt ops l t st).lim E.top->cL P ks n0 E nt b w st (lone (b.atR a (.inRegion ops (List.range' i l.length)::k)) ks w) k (bw P S nt ops l t st):=by
 intro l;induction l with
 |nil=>intro i hi E w st t a hr ht hm hl;exact⟨E,a,w,.refl hr,ht,hm,Q3 stepR_region_end⟩
 |cons o l ih=>
  intro i hi E w st t a hr ht hm hl;have hoi:ops[i]? = So o:=by
   have:(ops.toList.drop i)[0]? = So o:=by grind
   grind
  have hi':ops.toList.drop (i+1)=l:=by rw[<-List.drop_drop,hi];rfl
  have e:bw P S nt ops (o::l) t st=mc P S nt o t st (bw P S nt ops l) (gL ops t o):=rfl;rw[e]at hl|-;have hrg:List.range' i (o::l).length=i::List.range' (i+1) l.length:=by simp[Z4]
  cases hg:gL ops t o with
  |none=>exact trivial
  |some g=>
   rw[hg]at hl;have hw:=DM ht hg;cases g with
   |false=>
    have e:mc P S nt o t st (bw P S nt ops l) (So Ff)=iz (dE nt t o.dst .un) λt=>bw P S nt ops l t st:=rfl
    rw[e]at hl|-;cases hp:dE nt t o.dst .un with
    |none=>exact trivial
    |some t1=>simp[iz,Tr.seen_eq]at hl|-;have ht1:bX E nt t1 (a.put o.dst undef).tmps:=tM ht hp .un;simp_all[cL.gW,put_defers,stepR_op_skip]
   |true=>
    have e:mc P S nt o t st (bw P S nt ops l) (So Tt)=oS nt t o.dst (cC P S t st o) (bw P S nt ops l):=rfl;rw[e]at hl|-;cases ho:cC P S t st o with
    |none=>exact trivial
    |some p=>
     obtain⟨v,st1⟩:=p;rw[ho]at hl;have e:oS nt t o.dst (So (v,st1)) (bw P S nt ops l)=iz (dE nt t o.dst v) λt=>bw P S nt ops l t st1:=rfl
     rw[e]at hl|-;cases hp:dE nt t o.dst v with
     |none=>exact trivial
     |some t1=>
      rw[hp]at hl;simp[iz,Tr.seen_eq]at hl|-;rcases wM (tZ hS.up l t1 st1) hl with hno|hn
      ·rw[hno];exact trivial
      ·obtain⟨E',w',cv,hs,hc,hst⟩:=DH hoi hw (Eu ho) (IU hS hr (u9 ht) ho hn);have ht1:bX E' nt t1 (a.put o.dst cv).tmps:=tM (ht.mono hs.le) hp hc;exact cL.pre hs hst (ih (i+1) hi' hs.rel ht1 (by rw[put_defers];exact hm.step hs.toStep) (by rw[hs.top];grind))
end
theorem OI(hk:kind o.op=0):∃f:Option AV,∀st,cC P S t st o=cX st f:=by
 unfold cC;cases hop:o.op<;>rw[hop]at hk<;>first|(simp only[kind]at hk;omega)|skip
 case move x=>exact⟨So (ah t x),λst=>rfl⟩
 case assign x=>exact⟨So (ah t x),λst=>rfl⟩
 case pick c a b=>
  show ∃f:Option AV,∀st,rJ (ah t a) (ah t b) st (ah t c).gH=cX st f
  cases(ah t c).gH with
  |none=>exact⟨No,λ_=>rfl⟩
  |some x=>cases x;exact⟨So (ah t b),λ_=>rfl⟩;exact⟨So (ah t a),λ_=>rfl⟩
 case build ty ps=>
  show ∃f:Option AV,∀st,@Bool.rec (λ_=>aD) No (cI P ty (eB t ps.toList) st) (eC P ty)=cX st f
  have hf:∀pl z,∃f:Option AV,∀st,jc st pl (eB t ps.toList) z=cX st f:=by
   intro pl z;cases z with
   |none=>exact⟨No,λ_=>rfl⟩
   |some z=>
    cases hfl:fill pl z (eB t ps.toList)with
    |none=>exact⟨No,λ_=>by simp[jc,hfl,Cy,cX]⟩
    |some l=>exact⟨So (.ag l),λ_=>by simp[jc,hfl,Cy,cX]⟩
  cases eC P ty with
  |false=>exact⟨No,λ_=>rfl⟩
  |true=>
   unfold cI;cases hu:P.underlying ty with
   |none=>exact⟨No,λ_=>rfl⟩
   |some d=>cases d<;>first|exact hf _ _|exact⟨No,λ_=>rfl⟩
 case nilCheck x=>
  show ∃f:Option AV,∀st,notNil st (ah t x)=cX st f
  cases ah t x<;>first
   |exact⟨No,λ_=>rfl⟩
   |exact⟨So _,λ_=>rfl⟩
   |skip
  rename_i g a b;cases g<;>first|exact⟨No,λ_=>rfl⟩|exact⟨So _,λ_=>rfl⟩
 case binOp=>exact⟨_,λst=>rfl⟩
 case unOp=>exact⟨_,λst=>rfl⟩
 case makeInterface=>exact⟨No,λ_=>rfl⟩
 case makeFunc fn a b=>
  show ∃f:Option AV,∀st,Bf fn a b P S t st=cX st f
  unfold Bf;cases nT fn with
  |false=>exact⟨No,λ_=>rfl⟩
  |true=>exact⟨So _,λ_=>rfl⟩
 case fieldAddr s x n=>
  show ∃f:Option AV,∀st,oU s x n P S t st=cX st f
  unfold oU;cases bE P s n with
  |none=>exact⟨No,λ_=>rfl⟩
  |some k=>
   simp[fieldAt];cases(ah t x).jL with
   |some p=>exact⟨So _,λ_=>rfl⟩
   |none=>cases(ah t x).x5 with
    |none=>exact⟨No,λ_=>rfl⟩
    |some c=>exact⟨So _,λ_=>rfl⟩
 case field=>exact⟨No,λ_=>rfl⟩
 case indexAddr=>exact⟨_,λst=>rfl⟩
 case index=>exact⟨_,λst=>rfl⟩
 case extract x n=>
  show ∃f:Option AV,∀st,nth n st (ah t x)=cX st f
  cases ah t x<;>first|exact⟨No,λ_=>rfl⟩|exact⟨_,λ_=>rfl⟩
 case call c=>
  have⟨callee,az,ts⟩:=c;cases callee<;>first|(simp[kind]at hk)|skip
  grind
structure Sub(X Y:St):Prop where
 row:∀r x,X.get r=So x->Y.get r=So x
 live:∀g al,X.live.get g=So al->Y.live.get g=So al
theorem Sub.refl(X:St):Sub X X:=⟨λ_ _ h=>h,λ_ _ h=>h⟩
theorem Sub.ce{X Y:St}(h:Sub X Y){r:Nat}{p:List AV×Nat×List Nat}(hp:X.ce r=So p):Y.ce r=So p:=by
 unfold St.ce at hp|-;cases hg:X.get r with
 |none=>grind
 |some row=>
  rw[h.row r row hg];cases row with
  |ce l g=>
   simp only at hp|-;cases hl:X.live.get g with
   |none=>grind
   |some al=>rw[h.live g al hl];grind
  |_=>grind
theorem Sub.gR{X Y:St}(h:Sub X Y){t:TypeId}{x v:AV}{lo hi mx:Option AV}(hp:gR P X t x lo hi mx=So v):Ev.gR P Y t x lo hi mx=So v:=by
 unfold Ev.gR at hp|-;split at hp
 ·grind
 ·rename_i hno;unfold Fy at hp|-;split at hp
  ·rename_i r o n z;cases hce:X.ce r with
   |some lga=>rw[h.ce hce];grind
   |none=>grind
  grind
theorem Sub.rd{X Y:St}(h:Sub X Y){r o n:Nat}{l:List AV}(hp:rd X r o n=So l):rd Y r o n=So l:=by
 unfold Ev.rd at hp|-;cases hc:X.ce r with
 |none=>grind
 |some p=>rw[h.ce hc];grind
theorem Sub.loadAt{X Y:St}(h:Sub X Y){t:TypeId}{a v:AV}(hp:loadAt P t X a=So v):Ev.loadAt P t Y a=So v:=by
 unfold Ev.loadAt at hp|-;cases hi:aN P t with
 |false=>simp_all
 |true=>
  rw[hi]at hp;cases ha:a.jL with
  |none=>grind
  |some ro=>
   have⟨r,o⟩:=ro;rw[ha]at hp;cases hg:cw P t with
   |true=>
    rw[hg]at hp;simp only at hp|-;cases hr:Ev.rd X r o (aq P t)with
    |none=>rw[hr]at hp;cases hp
    |some l=>rw[h.rd hr];grind
   |false=>
    rw[hg]at hp;simp only at hp|-;cases hr:Ev.rd X r o 1 with
    |none=>rw[hr]at hp;cases hp
    |some l=>rw[h.rd hr];grind
theorem Sub.lookup{X Y:St}(h:Sub X Y){t:TypeId}{m k v:AV}{ok:Bool}(hp:lookup P t X m k ok=So v):Ev.lookup P t Y m k ok=So v:=by
 unfold Ev.lookup at hp|-;cases hu:P.underlying t with
 |none=>grind
 |some d=>
  rw[hu]at hp;cases d<;>first|(cases hp)|skip
  simp only at hp|-;split at hp
  ·grind
  ·cases hf:ko P t k with
   |false=>simp_all
   |true=>
    rw[hf]at hp;split at hp
    ·grind
    ·split at hp
     ·rename_i es c hg;rw[h.row _ _ hg];grind
     ·rename_i es hg;rw[h.row _ _ hg];grind
     grind
    grind
theorem Sub.Za{X:St}(h:Sub X Y)(hp:qQ P X ts x=So (v,X')):qQ P Y ts x=So (v,Y):=by
 have i64:∀{o:Option Nat},int64 X o=So (v,X')->int64 Y o=So (v,Y):=by
  intro o ho;cases o with
  |none=>cases ho
  |some n=>cases ho;rfl
 cases ts with
 |nil=>cases hp
 |cons t r=>
  unfold qQ at hp|-;simp only at hp|-;cases hu:P.underlying t with
  |none=>grind
  |some d=>
   rw[hu]at hp;cases d<;>first|(cases hp)|skip
   case string=>
    cases ht:kO x with
    |false=>simp_all
    |true=>simp_all
   case slice e=>
    cases ht:kO x with
    |false=>simp_all
    |true=>simp_all
theorem OJ(hk:kind o.op=1){X:St}(h:Sub X Y)(he:cC P S t X o=So (v,X')):cC P S t Y o=So (v,Y):=by
 unfold cC at he|-;have gv:∀{a b:Option AV},cX X a=So (v,X')->(∀v,a=So v->b=So v)->cX Y b=So (v,Y):=by intro a b ha hab;have⟨h1,_⟩:=ke ha;rw[hab v h1];rfl
 cases hop:o.op<;>rw[hop]at hk he<;>first|(simp only[kind]at hk;omega)|skip
 case load ty a=>exact gv (he:cX X (loadAt P ty X (ah t a))=_) λv hv=>h.loadAt hv
 case lookup ty m k ok=>exact gv (he:cX X (lookup P ty X (ah t m) (ah t k) ok)=_) λv hv=>h.lookup hv
 case slice ty x lo hi mx=>exact gv (he:cX X (gR P X ty (ah t x) (lo.map (ah t)) (hi.map (ah t)) (mx.map (ah t)))=_) λv hv=>h.gR hv
 case call c=>
  have⟨callee,az,ts⟩:=c;cases callee<;>first|(simp[kind]at hk)|skip
  rename_i bb;cases bb<;>first|(simp[]at hk)|skip
  have he:cP P X ts.toList (args t az.toList)=So (v,X'):=he;show cP P Y ts.toList (args t az.toList)=So (v,Y)
  unfold cP at he|-;split at he
  ·exact h.Za he
  grind
theorem YJ(hρ:∀x,Conc E (ah t x) (ρ x))(hk:kind o.op=2)(he:cC P S t st o=So (v,st')):
  ∃l,st'=st.aj l/\∃z ob n,(execOp ρ o).run P w=.ok (.value z) {w with heap:=w.heap.push ob}/\(∀g,gE E (w.heap.push ob) ⟨w.heap.size,0,n⟩ (.ce l g))/\
   ∀F,F.phi st.next=So ⟨w.heap.size,0,n⟩->Conc F v z:=by
 have row:∀{l:List AV}{us:Array Value} (ty:TypeId),aH E l us.toList->∀g,gE E (w.heap.push (.cells us ty)) ⟨w.heap.size,0,us.size⟩ (.ce l g):=by intro l us ty hc g;have hlen:=hc.length;refine⟨us,ty,(0,0),by simp,.inl rfl,rfl,by grind,?_⟩;grind
 unfold cC at he;cases hop:o.op<;>rw[hop]at hk he<;>first|(simp only[kind]at hk;omega;done)|skip
 case alloc e=>
  have he:lh st (bt P e)=So (v,st'):=he;cases hz:bt P e with
  |none=>rw[hz]at he;cases he
  |some l=>
   rw[hz]at he;cases he;obtain⟨z,g1,g2,g3,g4⟩:=pg hz;refine⟨l,rfl,.pointer (So ⟨w.heap.size,0,No⟩),.cells z.cells e,z.cells.size,?_,row e g2,λF hF=>?_⟩
   ·simp_all[execOp,Instr.alloc,newVar,newRow]
   ·have:=Conc.p st.next 0 _ hF;grind
 case box e x=>
  have he:lh st (ah t x).cells=So (v,st'):=he;cases hz:(ah t x).cells with
  |none=>rw[hz]at he;cases he
  |some l=>
   rw[hz]at he;cases he;have g2:=zY (hρ x) hz;refine⟨l,rfl,.pointer (So ⟨w.heap.size,0,No⟩),.cells (ρ x).cells e,(ρ x).cells.size,?_,row e g2,λF hF=>?_⟩
   ·simp_all[execOp,Instr.box,newVar,newRow]
   ·have:=Conc.p st.next 0 _ hF;grind
 case buildSlice ty len parts=>
  have he:oT ty len parts P S t st=So (v,st'):=he;unfold oT at he;split at he
  ·grind
  ·rename_i e hel;have hu:=nH hel;cases hz:bt P e with
   |none=>grind
   |some z=>
    rw[hz]at he;obtain⟨hle,he⟩:=dm he;obtain⟨zero,g1,g2⟩:=Td hz len;have hi:aN P e=true:=by obtain⟨_,_,_,g3,_⟩:=pg (E:=E) hz;grind
    cases hf:fill (nV (aq P e)) (rep len z) (eB t parts.toList)with
    |none=>rw[hf]at he;cases he
    |some l'=>
     rw[hf]at he;obtain⟨us',h1,h2⟩:=Dw hρ parts.toList _ l' _ hf g2;cases he;refine⟨l',rfl,.slice (So ⟨w.heap.size,0,No⟩) len len,.cells us' e,us'.size,?_,row e h2,λF hF=>.slk st.next 0 len (aq P e) len _ (Q0 _) (.inr ⟨_,hF,by simp⟩)⟩;have hle':¬len*aq P e > 2 ^ 24:=by simp_all
     have h1':Instr.fill (λi=>So (i*aq P e,aq P e)) ((Array.range (len*aq P e)).map (zero[· % zero.size]!)) (parts.map λ(i,x)=>(i,ρ x)).toList=So us':=by have:(λi=>So (i*aq P e,aq P e))=nV (aq P e):=rfl;simp_all
     have key:(Instr.buildSlice ty len (parts.map λ(i,x)=>(i,ρ x))).run P w=.ok (.slice (So ⟨w.heap.size,0,No⟩) len len) {w with heap:=w.heap.push (.cells us' e)}:=by simp only[Instr.buildSlice,Q1,bA hu,Q2,fR hi,if_neg hle'];refine(g1 (λzero=>_) w).trans ?_;grind[Q1,newRow,run_newObj,Q2,Q6]
     grind[execOp,Q1,Q2,Q6]
 case call c=>
  exfalso;obtain⟨callee,az,ts⟩:=c;cases callee<;>first|(simp[kind]at hk;done)|skip
  rename_i bb;cases bb<;>simp[kind]at hk
theorem CE{t t':Tr AV}:∀{l:List Operand},(∀x∈l,ah t x=ah t' x)->args t l=args t' l
 |[],_=>rfl
 |x::l,h=>by
  have h2:=CE λy hy=>h y (V7 _ hy)
  show ah t x::args t l=ah t' x::args t' l
  grind
theorem KB{t t':Tr AV}:∀{l:List (Nat×Operand)},(∀p∈l,ah t p.2=ah t' p.2)->eB t l=eB t' l
 |[],_=>rfl
 |x::l,h=>by
  have h2:=KB λy hy=>h y (V7 _ hy)
  show(x.1,ah t x.2)::eB t l=(x.1,ah t' x.2)::eB t' l
  grind
theorem IW{o:Option Operand}(h:∀x,o=So x->ah t x=ah t' x):o.map (ah t)=o.map (ah t'):=by
 cases o with
 |none=>rfl
 |some x=>grind
theorem Wt(h:∀x∈o.op.operands,ah t x=ah t' x):cC P S t st o=cC P S t' st o:=by
 unfold cC;have⟨dst,op,type,pos,after,guard⟩:=o;cases op<;>simp only[Op.operands]at h<;>first|rfl|skip
 case move x=>show So (ah t x,st)=So (ah t' x,st);grind
 case assign x=>show So (ah t x,st)=So (ah t' x,st);grind
 case pick c a b=>show rJ (ah t a) (ah t b) st (ah t c).gH=rJ (ah t' a) (ah t' b) st (ah t' c).gH;grind
 case box e x=>show lh st (ah t x).cells=lh st (ah t' x).cells;grind
 case build ty ps=>
  have:eB t ps.toList=eB t' ps.toList:=KB λp hp=>h p.2 (by grind)
  show @Bool.rec (λ_=>aD) No (cI P ty (eB t ps.toList) st) (eC P ty)=@Bool.rec (λ_=>aD) No (cI P ty (eB t' ps.toList) st) (eC P ty)
  grind
 case buildSlice ty n ps=>
  have:eB t ps.toList=eB t' ps.toList:=KB λp hp=>h p.2 (by grind)
  show oT ty n ps P S t st=oT ty n ps P S t' st
  unfold oT;grind
 case insert ty m k x=>show done (mapUpdate P ty st (ah t m) (ah t k) (ah t x))=done (mapUpdate P ty st (ah t' m) (ah t' k) (ah t' x));grind
 case mapEntry ty m k=>show mapEntry P ty st (ah t m) (ah t k)=mapEntry P ty st (ah t' m) (ah t' k);grind
 case entryStore ty m s x=>show done (entryStore st (ah t x) (ah t m) (gO (ah t s)))=done (entryStore st (ah t' x) (ah t' m) (gO (ah t' s)));grind
 case load ty a=>show cX st (loadAt P ty st (ah t a))=cX st (loadAt P ty st (ah t' a));grind
 case store ty a x=>show done (storeAt P ty st (ah t a) (ah t x))=done (storeAt P ty st (ah t' a) (ah t' x));grind
 case nilCheck x=>show notNil st (ah t x)=notNil st (ah t' x);grind
 case binOp op ty x y ty'=>show cX st (binOp P ty (kh x||kh y) op (ah t x) (ah t y))=cX st (binOp P ty (kh x||kh y) op (ah t' x) (ah t' y));grind
 case unOp op ty x=>show cX st (unOp op (ah t x))=cX st (unOp op (ah t' x));grind
 case convert s d x=>show conv P st s d (ah t x)=conv P st s d (ah t' x);grind
 case makeFunc fn a b=>
  have ha:args t a.toList=args t' a.toList:=CE λx hx=>h x (by grind)
  have hb:args t b.toList=args t' b.toList:=CE λx hx=>h x (by grind)
  show @Bool.rec (λ_=>aD) No (So (.f fn (args t a.toList) (args t b.toList),st)) (nT fn)=@Bool.rec (λ_=>aD) No (So (.f fn (args t' a.toList) (args t' b.toList),st)) (nT fn)
  grind
 case makeSlice ty l c=>
  show rH ty l c P S t st=rH ty l c P S t' st
  unfold rH;grind
 case slice ty x lo hi mx=>
  have h0:=h x (by simp);have h1:lo.map (ah t)=lo.map (ah t'):=IW λy hy=>h y (by grind)
  have h2:hi.map (ah t)=hi.map (ah t'):=IW λy hy=>h y (by grind)
  have h3:mx.map (ah t)=mx.map (ah t'):=IW λy hy=>h y (by grind)
  show cX st (gR P st ty (ah t x) (lo.map (ah t)) (hi.map (ah t)) (mx.map (ah t)))=cX st (gR P st ty (ah t' x) (lo.map (ah t')) (hi.map (ah t')) (mx.map (ah t')))
  grind
 case fieldAddr s x n=>
  show oU s x n P S t st=oU s x n P S t' st
  unfold oU;grind
 case indexAddr ty x ix=>show cX st (indexAddr P ty (ah t x) (ah t ix))=cX st (indexAddr P ty (ah t' x) (ah t' ix));grind
 case index ty x ix=>show cX st (index P ty (ah t x) (ah t ix))=cX st (index P ty (ah t' x) (ah t' ix));grind
 case lookup ty x ix ok=>show cX st (lookup P ty st (ah t x) (ah t ix) ok)=cX st (lookup P ty st (ah t' x) (ah t' ix) ok);grind
 case mapUpdate ty m k x=>show done (mapUpdate P ty st (ah t m) (ah t k) (ah t x))=done (mapUpdate P ty st (ah t' m) (ah t' k) (ah t' x));grind
 case range ty x=>show rP P ty st (ah t x)=rP P ty st (ah t' x);grind
 case next x s=>show wQ st s (ah t x)=wQ st s (ah t' x);grind
 case entry x=>show td st (ah t x)=td st (ah t' x);grind
 case extract x n=>show nth n st (ah t x)=nth n st (ah t' x);grind
 case call c=>
  have ha:args t c.args.toList=args t' c.args.toList:=CE λx hx=>h x (by simp at hx;simp[Call.operands,hx])
  show rG c P S t st=rG c P S t' st
  unfold rG;rw[ha];cases hc:c.callee with
  |builtin b=>rfl
  |value f=>simp only;rw[h f (by simp[Call.operands,hc])]
  |invoke r m=>rfl
def only(t:Tr AV):List Tmp->Tr AV
 |[]=>.lf
 |x::l=>(only t l).set x (t.get x)
theorem EE(t:Tr AV):∀(l:List Tmp) (x:Tmp),(only t l).get x=if x∈l then t.get x else No
 |[],x=>by simp[only,Tr.vm]
 |y::l,x=>by unfold only;rw[Tr.cW,EE t l x];grind
theorem Zk(hsz:a.tmps.size=nt)(h:∀x∈o.looksAt ops,Conc E (ab t x) (a.tmps.getD x undef)):
  (∀r,gL ops t o=So r->Region.wanted o (yielded ops a.tmps)=r)/\
  ∃(t':Tr AV) (ρ:Operand->Value),(∀x,Conc E (ah t' x) (ρ x))/\(∀st,cC P S t' st o=cC P S t st o)/\((∀cs b,o.op≠.select cs b)->execOp ρ o=execOp a.eval o):=by
 let L:=o.looksAt ops
 let t':=only t L
 let a':Act:={tmps:=(Array.range nt).map (λi=>if i∈L then a.tmps.getD i undef else undef),defers:=a.defers}
 have hget:∀x,a'.tmps.getD x undef=if x∈L then a.tmps.getD x undef else undef:=by intro x;rw[J1];grind
 have hT:bX E nt t' a'.tmps:=by
  refine⟨by grind,λx=>?_⟩;rw[hget];unfold ab;rw[EE];by_cases hx:x∈L
  ·rw[if_pos hx,if_pos hx];exact h x hx
  ·rw[if_neg hx,if_neg hx];exact .un
 have hev:∀x,x∈o.op.operands->ah t' x=ah t x:=by
  intro x hx;cases x with
  |tmp y=>
   have:y∈L:=V8 _ (V9.2 ⟨.tmp y,by grind,rfl⟩);show(match t'.get y with|some v=>v|none=>.un)=(match t.get y with|some v=>v|none=>.un)
   rw[EE,if_pos this]
  |_=>rfl
 have hea:∀x,x∈o.op.operands->a'.eval x=a.eval x:=by
  intro x hx;cases x with
  |tmp y=>have:y∈L:=V8 _ (V9.2 ⟨.tmp y,by grind,rfl⟩);have:=hget y;rw[if_pos (by grind)]at this;exact this
  |_=>rfl
 refine⟨λr hr=>?_,t',a'.eval,u9 hT,λst=>Wt hev,λhs=>execOp_congr o hs hea⟩;have hg:gL ops t' o=So r:=by
  rw[<-hr];unfold gL;cases hgd:o.guard with
  |none=>rfl
  |some gw=>
   have⟨g,want⟩:=gw;simp only;unfold tj;cases hog:ops[g]? with
   |none=>rfl
   |some og=>
    simp only;cases hd:og.dst with
    |none=>rfl
    |some d=>have:d∈L:=X0 _ (by grind);simp[t',EE,if_pos this]
 rw[<-DM hT hg];unfold Region.wanted;cases hgd:o.guard with
 |none=>rfl
 |some gw=>
  have⟨g,want⟩:=gw;have hy:yielded ops a.tmps g=yielded ops a'.tmps g:=by
   unfold yielded;cases hog:(ops[g]?).bind (·.dst)with
   |none=>rfl
   |some d=>
    have hd:d∈L:=X0 _ (by simp[hgd,hog]);have:=hget d;rw[if_pos hd]at this;by_cases hlt:d<nt
    ·have e1:a.tmps[d]? = So (a.tmps.getD d undef):=by
      rw[J1];have:d<a.tmps.size:=Nat.lt_of_lt_of_eq hlt hsz.symm;simp[this]
     have e2:a'.tmps[d]? = So (a'.tmps.getD d undef):=by
      rw[J1];have:d<a'.tmps.size:=by simp[a',hlt]
      simp[this]
     simp only[Option.bind_some,e1,e2,this]
    grind
  grind
theorem Step.BB{ay X:St}(h:Step E0 E H0 H ay X){B:eo}(hphi:E.phi r=No)(hget:X.get r=No)(hr:r<X.next)
  (hmem:∀g al,X.live.get g=So al->r∉al) (hlr:X.live.get r=No)
  (hget':∀x,X'.get x=if x=r then So row else X.get x) (hnext:X'.next=X.next) (hlive':∀g,X'.live.get g=X.live.get g\/(g=r/\X'.live.get g=So [r]))
  (hce:∀l g,row=.ce l g->g=r) (hB:H0.size<=B.b) (hun:Un E X B.b) (hrow:gE E H B row):Step E0 (E.bind r B) H0 H ay X':=by
 have hle:E.le (E.bind r B):=Env.mS hphi;have hh:=h.rel;have hal:∀x y,X'.alive x=So y->(x=r/\y=row)\/(x≠r/\X.alive x=So y):=by
  intro x y hx;by_cases e:x=r
  ·left;have:=Rel.kZ hx;grind
  ·right;refine⟨e,?_⟩;unfold St.alive at hx|-;rw[hget',if_neg e]at hx;cases hg:X.get x with
   |none=>grind
   |some w=>
    rw[hg]at hx;cases w with
    |ce l g=>
     simp only at hx|-;rcases hlive' g with hq|⟨rfl,hq⟩
     ·grind
     ·rw[hq]at hx;have:mem x [g]=false:=by
       cases hm:mem x [g] with
       |false=>rfl
       |true=>rw[mem_iff]at hm;grind
      grind
    |mp=>grind
    |si=>grind
    |mi=>grind
    |lp=>grind
    |mu=>grind
    |ch=>grind
    |ty=>grind
 have hunB:∀x y C,X.alive x=So y->E.phi x=So C->C.b≠B.b:=λx y C hx hC hb=>hun.1 ⟨x,y,C,hx,hC,hb⟩
 refine⟨h.le.trans hle,h.imm,h.top,⟨hh.imm,?_,?_,?_,?_,?_,?_,?_,?_,λx t r0 q hx=>by
  rw[hget']at hx;split at hx
  ·cases hx;exact(show False from hrow).elim
  ·exact(hh.tys x t r0 q hx).mono hle (dZ.refl H)⟩,h.fr.size,h.fr.keep,?_⟩
 ·intro x hx ht;rw[Env.cG (by omega)];exact hh.fresh x (by omega) ht
 ·intro x hx;rw[hget',if_neg (by omega)];exact hh.freshRow x (by omega)
 ·intro g hg;rcases hlive' g with hq|⟨rfl,_⟩
  ·rw[hq];exact hh.freshG g (by omega)
  grind
 ·intro g al x hg hx;rcases hlive' g with hq|⟨rfl,hq⟩
  ·rw[hq]at hg;have:=hh.liveLt g al x hg hx;omega
  grind
 ·intro x y hx;rcases hal x y hx with ⟨rfl,rfl⟩|⟨hne,hx'⟩
  ·exact⟨_,Env.df,hrow.mono hle rfl⟩
  ·have⟨C,hC,hR⟩:=hh.rows x y hx';exact⟨C,by rw[Env.cG hne];grind,hR.mono hle rfl⟩
 ·intro x y C hx hC;rcases hal x y hx with ⟨rfl,rfl⟩|⟨hne,hx'⟩
  ·rw[Env.df]at hC;cases hC;exact hun.2
  ·rw[Env.cG hne]at hC;exact hh.own x y C hx' hC
 ·intro x x' y y' C C' hx hx' hC hC' hb;rcases hal x y hx with ⟨rfl,rfl⟩|⟨hne,hx1⟩<;>rcases hal x' y' hx' with ⟨rfl,rfl⟩|⟨hne',hx1'⟩
  ·exact .inl rfl
  ·rw[Env.df]at hC;cases hC;rw[Env.cG hne']at hC';exact absurd hb.symm (hunB _ _ _ hx1' hC')
  ·rw[Env.df]at hC';cases hC';rw[Env.cG hne]at hC;exact absurd hb (hunB _ _ _ hx1 hC)
  ·rw[Env.cG hne]at hC;rw[Env.cG hne']at hC';exact hh.sep x x' y y' C C' hx1 hx1' hC hC' hb
 ·intro g al hg;rcases hlive' g with hq|⟨rfl,hq⟩
  ·rw[hq]at hg;refine(hh.ends g al hg).imp_of_mem ?_;intro x y hx hy hxy lx ly Bx By h1 h2 h3 h4 h5;have hxn:x≠r:=by rintro rfl;exact hmem g al hg hx
   have hyn:y≠r:=by rintro rfl;exact hmem g al hg hy
   rw[hget',if_neg hxn]at h1;rw[hget',if_neg hyn]at h2;rw[Env.cG hxn]at h3;rw[Env.cG hyn]at h4;exact hxy lx ly Bx By h1 h2 h3 h4 h5
  ·rw[hq]at hg;cases hg;simp
 ·rintro b ⟨x,y,C,hx,hC,rfl⟩;rcases hal x y hx with ⟨rfl,rfl⟩|⟨hne,hx'⟩
  ·rw[Env.df]at hC;cases hC;exact .inl hB
  ·rw[Env.cG hne]at hC;exact h.fr.own _ ⟨x,y,C,hx',hC,rfl⟩
theorem St.Cz{X:St}(hg:∀r,Y.get r=X.get r)(hl:∀g,Y.live.get g=X.live.get g)(r:Nat):Y.alive r=X.alive r:=by grind[St.alive]
theorem Step.ext{ay X:St}(h:Step E0 E H0 H ay X)(hg:∀r,Y.get r=X.get r)(hl:∀g,Y.live.get g=X.live.get g)(hn:X.next<=Y.next):Step E0 E H0 H ay Y:=by
 have hh:=h.rel;have ha:=St.Cz hg hl;refine⟨h.le,h.imm,h.top,⟨hh.imm,λr hr ht=>hh.fresh r (by omega) ht,λr hr=>by rw[hg];exact hh.freshRow r (by omega),λg hr=>by rw[hl];exact hh.freshG g (by omega),
  λg al x hal hx=>?_,λr row hr=>hh.rows r row (by grind),λr row B hr=>hh.own r row B (by grind),λr r' row row' B B' h1 h2=>hh.sep r r' row row' B B' (by grind) (by grind),λg al hal=>?_,λx t r0 q hx=>hh.tys x t r0 q (by grind)⟩,h.fr.size,h.fr.keep,?_⟩
 ·rw[hl]at hal;have:=hh.liveLt g al x hal hx;omega
 ·rw[hl]at hal;refine(hh.ends g al hal).imp ?_;intro x y hxy lx ly Bx By h1 h2;rw[hg]at h1 h2;exact hxy lx ly Bx By h1 h2
 ·rintro b ⟨r,row,B,hr,hB,hb⟩;exact h.fr.own b ⟨r,row,B,by grind,hB,hb⟩
