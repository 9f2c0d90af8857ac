/- A part of the proof. -/
import Derived.Test.YtnmofhngblebiaaGreatDoorS06
import Derived.Ground.Names2Prog
import Derived.Test.YtnmofhngblebiaaGreatDoorProg
import Derived.Shelf.Strconv.Itoa3
import Derived.Shelf.SlMaps.Clone
import Derived.Shelf.Slices.In.SortNone
set_option maxRecDepth 100000
open Option renaming some->So,none->No
open List renaming not_mem_nil->Q0,length_map->Q3,mem_cons->Q5,length_append->Q6,length_drop->Q7,mem_map->Q9,length_nil->J1,map_cons->J3,getElem?_append_left->J5,getElem?_eq_some_iff->J6,mem_cons_of_mem->J9,getElem?_concat_length->Z0,mem_singleton->Z3,mem_of_mem_drop->Z4,length_cons->Z5
open Nat renaming le_refl->Q1,le_add_right->Q2,lt_of_lt_of_le->Q8,lt_or_ge->J4,not_le->J8
open Option renaming bind_some->Q4
open Go.Proofs.Tryz
noncomputable section
open Go.Ev
namespace Go.Ev
variable {F:Ex->List ae}{G K:ae->Nat}{S:aK}{a b gl k n z:Nat}{arC:Nat->Option Int}{ex lam run:mE}{f g:FuncId}{fr ps:List ae}{m m':Ms}{o:bC}{rs:List Rf}{st:St}{tyC:Nat->ae}{w:World}{x:Ex}{xs:List AV}{α:Type}
section
open Go.Sort Go.Proofs
variable {P:Program}
def iI(n:Int):AV:=.i .i64 n
def tn:List AV->Option (List Int)
 |[]=>So []
 |.i .i64 x::l=>match tn l with|some r=>So (x::r)|none=>No
 |_::_=>No
theorem Ow:∀{l:List AV}{r:List Int},tn l=So r->l=r.map iI
 |[],r,h=>by cases h;rfl
 |v::l,r,h=>by
  unfold tn at h;split at h
  ·grind
  ·rename_i x l' e;cases e;cases hl:tn l with
   |none=>grind
   |some q=>rw[hl]at h;cases h;rw[Ow hl];rfl
  grind
theorem Ox:∀l:List Int,tn (l.map iI)=So l
 |[]=>rfl
 |x::l=>by simp only[J3,iI,tn];rw[Ox l]
theorem MC{E:Env}:∀{l:List Int}{us:List Value},aH E (l.map iI) us->us=l.map (Value.int .i64)
 |[],us,h=>by cases h;rfl
 |x::l,us,h=>by
  cases h with
  |cons _ _ u us h1 h2=>
  rw[MC h2];cases h1;rfl
theorem Od{E:Env}:∀l:List Int,aH E (l.map iI) (l.map (Value.int .i64))
 |[]=>.nil
 |x::l=>.cons _ _ _ _ (.i .i64 x) (Od l)
theorem Yc{o:Nat}{l:List Int}(h:Sort.Holds id w b o (l.map (Value.int .i64)).toArray):Sort.Holds (Value.int .i64) w b o l.toArray:=by intro j hj;have:=h j (by grind);grind
theorem abr(w:World)(b o:Nat)(l:List Int):Sort.putRow (Value.int .i64) w b o l.toArray=Sort.putRow id w b o (l.map (Value.int .i64)).toArray:=by unfold Sort.putRow;unfold Sort.putCells;grind
def xv(l:List Int):List Int:=l.mergeSort λx y=>decide (x<=y)
theorem RU(l:List Int):(xv l).Perm l:=List.mergeSort_perm l _
def tT(g:FuncId)(f:FuncId)(xs:List AV)(st:St):Option (AV×St):=
 if f=g then match xs with
  |[.sl r o n _ _]=>if 0<n/\n<4611686018427387904 then(rd st r o n).bind λl=>(tn l).bind λss=>(wt st r o ((xv ss).map iI)).bind λst'=>So (.tu [],st') else No
  |_=>No
 else No
theorem RS(h:f≠g):tT g f xs st=none:=by unfold tT;grind
theorem acA{g r o:Nat}{c:Option Nat}{l:List AV}{ss:List Int}{st':St}(h1:0<n)(h2:n<4611686018427387904)(h3:rd st r o n=So l)(h4:l=ss.map iI)(h5:wt st r o ((xv ss).map iI)=So st'):tT g g [.sl r o n z c] st=So (.tu [],st'):=by unfold tT;simp only[h1,h2,and_self,if_true,h3,Q4,h4,Ox,h5]
theorem acB (hs:∀(blk off cap:Nat) (ss:List Int) (w:World),Sort.Holds (Value.int .i64) w blk off ss.toArray->blk<w.heap.size->ss.length<4611686018427387904->
   Calls P g #[.slice (So ⟨blk,off,No⟩) ss.length cap] w λe w'=>e=.returned (.tuple #[])/\∃n os,w'=Sort.grow (Sort.putRow (Value.int .i64) (Sort.ahead w n) blk off (ss.mergeSort λx y=>decide (x<=y)).toArray) os):um P (tT g):=by
 refine⟨λf xs st=>?_,λ{ks E w st st' f xs us v} hr hc h hn'=>?_⟩
 ·unfold tT;split
  ·split
   ·split
    ·cases h1:rd st _ _ _ with
     |none=>exact bu
     |some l=>
      simp only[Q4];cases h2:tn l with
      |none=>exact bu
      |some ss=>
       simp only[Q4];cases h3:wt st _ _ _ with
       |none=>exact bu
       |some st'=>exact λ_ _ e=>by cases e;exact B7 _ h3
    ·exact bu
   ·exact bu
  ·exact bu
 ·unfold tT at h;split at h
  case isFalse=>grind
  rename_i hg;subst hg;split at h
  ·rename_i r o n z c;split at h
   case isFalse=>grind
   rename_i hb;cases h1:rd st r o n with
   |none=>grind
   |some l=>
   rw[h1,Q4]at h;cases h2:tn l with
   |none=>grind
   |some ss=>
   rw[h2,Q4]at h;cases h3:wt st r o ((xv ss).map iI)with
   |none=>grind
   |some st2=>
   rw[h3,Q4]at h;cases h;cases hc with
   |cons _ _ u us k1 k2=>
   cases k2;obtain⟨B,k,hB,rfl,hk⟩:=RM k1 hb.1;have⟨us,e1,e2,e3,e4⟩:=Ob hr h1 hB;rw[Ow h2]at e1;have e5:=MC e1;subst e5;have hl:ss.length=n:=by grind
   obtain⟨W,h1,m,os,rfl⟩:=CV (ks:=ks) (hs B.b (o+B.d) k ss w (Yc e3) e4 (by omega));rw[hl]at h1;refine⟨E,_,_,h1,?_,.tu _ _ .nil⟩;rw[abr];exact RV hr h3 (Od _) m os hB
  grind
end
def kz(gl most:Nat)(r:Rf):Prop:=(r.1=1/\0<=r.2/\r.2<(most:Int))\/(r.1=2/\0<=r.2/\r.2<(gl:Int))\/r.1=3\/(r.1=4/\0<=r.2/\r.2<=255)
structure lU(gl most:Nat)(o:bC):Prop where
 rs:∀r∈o.rs,kz gl most r
 als:∀a∈o.als,a.slot<most/\∀r∈a.rs,kz gl most r
 chs:∀c∈o.chs,∀s∈c.slots,s<most
theorem kz.mono(h:a<=b){r:Rf}(k:kz gl a r):kz gl b r:=by unfold kz at*;omega
theorem lU.mono{gl a b:Nat}(h:a<=b){o:bC}(k:lU gl a o):lU gl b o :=
 ⟨λr hr=>(k.rs r hr).mono h,λx hx=>⟨Q8 (k.als x hx).1 h,λr hr=>((k.als x hx).2 r hr).mono h⟩,λc hc s hs=>Q8 (k.chs c hc s hs) h⟩
structure Sg where
 k:Int
 n:Nat
 m:Int
 z:Nat
def cT.sg(c:cT):Sg:=⟨c.k,c.n,c.num,c.slots.length⟩
def xk(K:ae->Nat)(h:dh):Sg:=⟨h.k,if h.k=1 then K h.n else 0,h.m,h.vs.length⟩
section
variable(arC:Nat->Option Int)(tyC:Nat->ae)
def uT(n z:Nat):Prop:=arC n=So (z:Int)
def Rz(s:Sg):Prop:=(s.k=1/\s.m=0/\uT arC s.n s.z)\/(s.k=2/\s.n=0/\s.z=0)\/(s.k=3/\s.n=0/\s.z=0/\0<=s.m/\s.m<=255)\/(s.k=4/\s.n=0/\s.m=0/\s.z<=1)
structure TR(L:List Sg)(i:Nat)(a:Sg):Prop where
 ok:Rz arC a
 els:a.k=4->i+1=L.length
 kind:a.k≠4->∃h:0<L.length,a.k=L[0].k
 ty:a.k=1->∃h:0<L.length,tyC a.n=tyC L[0].n
 once:∀(j:Nat) (b:Sg),j<i->L[j]? = So b->¬(b.k=a.k/\b.n=a.n/\b.m=a.m)
def Cs(L:List Sg):Prop:=L≠[]/\∀(i:Nat) (a:Sg),L[i]? = So a->TR arC tyC L i a
def qE(bos:List dS)(k n:Nat)(rs:List Rf):Prop :=
 (k=1/\∃b,bos[n]? = So b/\b.free=rs.length/\b.ps=0)\/(k=2/\∃b,bos[n]? = So b/\b.free=rs.length/\1<=b.ps)\/(k=3/\uT arC n rs.length)\/(k=4/\n=0/\∃r,rs=[r]/\(r.1=3\/r.1=4))
variable(strF arF:ae->Int)
inductive kY (bos:List dS):bC->Prop where
 |ref (r:Rf):kY bos {k:=1,rs:=[r]}
 |fn (n:Nat) (rs:List Rf) (b:dS) (h:bos[n]? = So b) (h1:b.free=rs.length) (h2:1<=b.ps):kY bos {k:=2,n:=n,rs:=rs}
 |con (n:Nat) (rs:List Rf) (h:uT arC n rs.length):kY bos {k:=3,n:=n,rs:=rs}
 |app (rs:List Rf) (next:Nat) (h1:1<=rs.length) (h2:rs.length<=32):kY bos {k:=4,rs:=rs,next:=next}
 |lt (als:List dG) (next:Nat) (h:als≠[]) (ha:∀a∈als,qE arC bos a.k a.n a.rs):kY bos {k:=5,als:=als,next:=next}
 |cs (chs:List cT) (next:Nat) (h:Cs arC tyC (chs.map cT.sg)):kY bos {k:=6,chs:=chs,next:=next}
 |pr (nm:ae) (ops:List Nat) (rs:List Rf) (h0:0<=strF nm) (h1:(ops.length:Int)=strF nm) (h2:(rs.length:Int)=arF nm-strF nm):kY bos {k:=7,nm:=nm,ops:=ops,rs:=rs}
structure py(o:bC):Prop where
 rs:o.rs.length<=1000000
 ops:o.ops.length<=1000000
 als:o.als.length<=1000000/\∀a∈o.als,a.rs.length<=1000000
 chs:o.chs.length<=1000000/\∀c∈o.chs,c.slots.length<=1000000
structure sH(gl:Nat)(ops:List bC)(b:dS):Prop where
 ts:TS ops (lU gl b.slots) b.op
 le:b.free+b.ps<=b.slots
 hi:b.slots<=65536
 p:b.ps<=32
structure Fit(gl:Nat)(m m':Ms):Prop where
 ex:∃o b,m'.ops=m.ops++o/\m'.bos=m.bos++b
 op:∀(i:Nat) (o:bC),m.ops.length<=i->m'.ops[i]? = So o->kY arC tyC strF arF m'.bos o/\py o
 bo:∀(i:Nat) (b:dS),m.bos.length<=i->m'.bos[i]? = So b->sH gl m'.ops b
end
section
variable {strF arF:ae->Int}{m1 m2:Ms}{bos bos':List dS}
theorem qE.mono(h:∀(i:Nat) (b:dS),bos[i]? = So b->bos'[i]? = So b)(hm:qE arC bos k n rs):qE arC bos' k n rs:=by
 rcases hm with ⟨h1,b,h2,h3⟩|⟨h1,b,h2,h3⟩|h1|h1
 ·exact .inl ⟨h1,b,h _ _ h2,h3⟩
 ·exact .inr (.inl ⟨h1,b,h _ _ h2,h3⟩)
 ·exact .inr (.inr (.inl h1))
 ·exact .inr (.inr (.inr h1))
theorem kY.mono(h:∀(i:Nat) (b:dS),bos[i]? = So b->bos'[i]? = So b){o:bC}(ho:kY arC tyC strF arF bos o):kY arC tyC strF arF bos' o:=by
 cases ho with
 |ref r=>exact .ref r
 |fn n rs b h0 h1 h2=>exact .fn n rs b (h _ _ h0) h1 h2
 |con n rs h1=>exact .con n rs h1
 |app rs next h1 h2=>exact .app rs next h1 h2
 |lt als next h1 h2=>exact .lt als next h1 λa ha=>(h2 a ha).mono h
 |cs chs next h1=>exact .cs chs next h1
 |pr nm ops rs h0 h1 h2=>exact .pr nm ops rs h0 h1 h2
theorem Uf{l l' r:List α}(h:l'=l++r)(i:Nat)(x:α)(hi:l[i]? = So x):l'[i]? = So x:=by grind
theorem Fit.EH(h:Fit arC tyC strF arF gl m m'):∀(i:Nat) (x:bC),m.ops[i]? = So x->m'.ops[i]? = So x:=by have⟨o,b,h1,h2⟩:=h.ex;grind
theorem Fit.CN(h:Fit arC tyC strF arF gl m m'):∀(i:Nat) (x:dS),m.bos[i]? = So x->m'.bos[i]? = So x:=by have⟨o,b,h1,h2⟩:=h.ex;grind
theorem Fit.refl(m:Ms):Fit arC tyC strF arF gl m m :=
 ⟨⟨[],[],by simp,by simp⟩,λi o h1 h2=>by grind,λi b h1 h2=>by grind⟩
theorem sH.mono{ops ops':List bC}(h:∀(i:Nat) (x:bC),ops[i]? = So x->ops'[i]? = So x){b:dS}(hb:sH gl ops b):sH gl ops' b:=⟨hb.ts.mono h λ_ h=>h,hb.le,hb.hi,hb.p⟩
theorem Fit.trans(h:Fit arC tyC strF arF gl m m1)(k:Fit arC tyC strF arF gl m1 m2):Fit arC tyC strF arF gl m m2:=by
 have hk:=k.EH;have hb:=k.CN;have⟨o,b,h1,h2⟩:=h.ex;have⟨o',b',k1,k2⟩:=k.ex;refine⟨⟨o++o',b++b',by grind,by grind⟩,λi x g1 g2=>?_,λi x g1 g2=>?_⟩
 ·rcases J4 i m1.ops.length with hi|hi
  ·rw[k1,J5 hi]at g2;exact⟨(h.op i x g1 g2).1.mono hb,(h.op i x g1 g2).2⟩
  ·exact k.op i x hi g2
 ·rcases J4 i m1.bos.length with hi|hi
  ·rw[k2,J5 hi]at g2;exact(h.bo i x g1 g2).mono hk
  ·exact k.bo i x hi g2
theorem OO{l:List α}{a x:α}{i:Nat}(hi:l.length<=i)(h:(l++[a])[i]? = So x):i=l.length/\x=a:=by grind
theorem Fit.put(h:Fit arC tyC strF arF gl m m1)(ho:kY arC tyC strF arF m1.bos o)(hl:py o):Fit arC tyC strF arF gl m ⟨m1.ops++[o],m1.bos⟩:=by
 refine h.trans ⟨⟨[o],[],rfl,by simp⟩,λi x h1 h2=>?_,λi b h1 h2=>?_⟩
 ·obtain⟨-,rfl⟩:=OO h1 h2;exact⟨ho,hl⟩
 ·have:=(J6.1 h2).1;exact absurd h1 (J8.2 this)
theorem Fit.body(h:Fit arC tyC strF arF gl m m1){b:dS}(hb:sH gl m1.ops b):Fit arC tyC strF arF gl m ⟨m1.ops,m1.bos++[b]⟩:=by
 refine h.trans ⟨⟨[],[b],by simp,rfl⟩,λi x h1 h2=>?_,λi x h1 h2=>?_⟩
 ·have:=(J6.1 h2).1;exact absurd h1 (J8.2 this)
 ·obtain⟨-,rfl⟩:=OO h1 h2;exact hb
mutual
def eH:Ex->Nat
 |.mk _ _ _ ps b a l=>(aL ps).length+kP b+jR a+nS l
def kP:aa->Nat
 |.nil _=>0
 |.cons _ x l=>1+eH x+kP l
def jR:aa->Nat
 |.nil _=>0
 |.cons _ x l=>eH x+jR l
def nS:aa->Nat
 |.nil _=>0
 |.cons p x l=>(aM (p,x)).vs.length+eH x+nS l
end
end
section
variable(F:Ex->List ae)(G K:ae->Nat)(arC:Nat->Option Int)(tyC:Nat->ae)(strF arF:ae->Int)
structure TH(k:Int)(nm:ae)(num:Int)(ps:List ae)(b a l:aa):Prop where
 hd:Cl k a
 al:a.len<=1000000/\l.len<=1000000
 ch:k=3->0<=num/\num<=255
 con:k=4->uT arC (K nm) a.len
 lam:k=5->1<=ps.length/\ps.length<=32
 p0:k≠5->ps=[]
 app:k=6->2<=a.len/\a.len<=33
 lt:k=7->1<=b.len
 alt:k=8->Cs arC tyC (l.bB.map (xk K))
 pr:k=9->0<=strF nm/\strF nm<=a.len/\arF nm=a.len
mutual
def oj:Ex->List ae->Prop
 |.mk k nm num ps b a l,p=>TH K arC tyC strF arF k nm num (aL ps) b a l/\((F (.mk k nm num ps b a l)).Nodup/\∀s∈F (.mk k nm num ps b a l),s∈p) /\
  ui a (p++(aL ps++b.names))/\ui b (p++(aL ps++b.names))/\Ch l p
def ui:aa->List ae->Prop
 |.nil _,_=>True
 |.cons _ x l,p=>oj x p/\ui l p
def Ch:aa->List ae->Prop
 |.nil _,_=>True
 |.cons p' x l,p=>oj x (p++(aM (p',x)).vs)/\Ch l p
end
end
theorem IM:∀{L M:List ae},L.Nodup->(∀s∈L,s∈M)->L.length<=M.length
 |[],M,_,_=>Nat.zero_le _
 |a::L,M,h,k=>by
  rw[List.nodup_cons]at h;have:=IM (M:=M.erase a) h.2 λs hs=>(List.mem_erase_of_ne (λe:s=a=>h.1 (by grind))).2 (k s (J9 _ hs))
  grind
def ia(S:aK)(n:Nat):Prop:=∀s i,S s=So i->i<n
theorem ia.nil(n:Nat):ia (λ_=>No) n:=λs i h=>by grind
theorem ia.add:∀{l:List ae}{S:aK}{n:Nat},ia S n->ia (aZ S l n) (n+l.length)
 |[],S,n,h=>h
 |x::l,S,n,h=>by
  have:ia (λy=>if y=x then So n else S y) (n+1):=λs i hi=>by
   simp only at hi;split at hi
   ·grind
   ·have:=h s i hi;omega
  have h2:=ia.add (l:=l) this;unfold aZ;grind
theorem ia.mono(h:ia S a)(hab:a<=b):ia S b:=λs i hi=>Q8 (h s i hi) hab
section
variable {strF arF:ae->Int}
theorem IJ(hG:∀s,G s<gl)(hS:ia S n)(s:ae):kz gl n (eJ G S s):=by
 unfold eJ;cases h:S s with
 |none=>exact .inr (.inl ⟨rfl,by simp,by grind⟩)
 |some i=>exact .inl ⟨rfl,by simp,by simpa using hS s i h⟩
theorem GF(hG:∀s,G s<gl)(hS:ia S n):∀{x:Ex}{p:List ae},oj F K arC tyC strF arF x p->kz gl n (atR G S x)
 |.mk k nm num ps b a l,p,h=>by
  obtain⟨h1,-⟩:=h;unfold atR;simp only;split
  ·exact .inr (.inr (.inl rfl))
  ·split
   ·rename_i h3;exact .inr (.inr (.inr ⟨rfl,h1.ch h3⟩))
   ·exact IJ hG hS nm
theorem BD(hG:∀s,G s<gl){S:aK}{n:Nat}(hS:ia S n):∀{l:aa}{p:List ae},ui F K arC tyC strF arF l p->∀r∈gQ G S l,kz gl n r
 |.nil _,_,_,r,hr=>by simp[gQ,aa.list]at hr
 |.cons q x l,p,⟨h1,h2⟩,r,hr=>by
  rcases Q5.1 hr with rfl|hr
  ·exact GF hG hS h1
  ·exact BD hG hS h2 r hr
theorem Eb(h:o.rs.length<=1000000)(h2:o.ops=[])(h3:o.als=[])(h4:o.chs=[]):py o:=⟨h,by grind,by grind,by grind⟩
theorem yV(S:aK)(l:aa):(gQ G S l).length=l.len:=by rw[gQ,Q3,aa.aF]
def xU(arC:Nat->Option Int)(tyC:Nat->ae)(strF arF:ae->Int)(gl:Nat)(run:mE)(z:Nat):Prop:=∀(S:aK) (n:Nat) (m:Ms),ia S n->
 Fit arC tyC strF arF gl m (run S n m).2.2/\(n<=(run S n m).2.1/\(run S n m).2.1<=n+z)/\TS (run S n m).2.2.ops (lU gl (run S n m).2.1) (run S n m).1
theorem GO(h:xU arC tyC strF arF gl run z)(h1:fr.length+ps.length+z<=65536)(h2:ps.length<=32)(m:Ms):
  Fit arC tyC strF arF gl m (lu fr ps run m).2/\∃b,(lu fr ps run m).2.bos[(lu fr ps run m).1]? = So b/\b.free=fr.length/\b.ps=ps.length:=by
 have hS:ia (aZ (aZ (λ_=>No) fr 0) ps fr.length) (fr.length+ps.length):=by have:=(ia.nil 0).add (l:=fr);rw[Nat.zero_add]at this;exact this.add
 have⟨k1,k2,k3⟩:=h _ _ m hS;refine⟨k1.body ⟨k3,k2.1,by grind,h2⟩,_,Z0,rfl,rfl⟩
theorem wZ(hs:lU gl n o)(hc:∀c∈comes o,∃n',n'<=n/\TS m.ops (lU gl n') c):TS (eh o n m).2.2.ops (lU gl (eh o n m).2.1) (eh o n m).1:=by
 refine .mk _ o Z0 hs λc h=>?_
 have⟨n',h1,h2⟩:=hc c h;exact h2.mono (Uf rfl) λo ho=>ho.mono h1
theorem SM(hG:∀s,G s<gl){p:List ae}(hx:oj F K arC tyC strF arF x p)(hp:p.length+eH x<=65536)(hz:(yN x).length+z<=eH x)(hl:x.kind=5->xU arC tyC strF arF gl lam z)(he:xU arC tyC strF arF gl ex (eH x))(hS:ia S n)(m:Ms):
  Fit arC tyC strF arF gl m (valOf F G K S x lam ex m).2/\qE arC (valOf F G K S x lam ex m).2.bos (valOf F G K S x lam ex m).1.1 (valOf F G K S x lam ex m).1.2.1 (valOf F G K S x lam ex m).1.2.2/\(∀r∈(valOf F G K S x lam ex m).1.2.2,kz gl n r)/\(valOf F G K S x lam ex m).1.2.2.length<=1000000:=by
 have⟨k,nm,num,ps,b,a,l⟩:=x;have hx':=hx;have⟨h1,⟨h2,h3⟩,ha,hb,hA⟩:=hx;have hF:=IM h2 h3;have hfr:∀r∈(F (.mk k nm num ps b a l)).map (eJ G S),kz gl n r:=λr hr=>by obtain⟨s,-,rfl⟩:=Q9.1 hr;exact IJ hG hS s
 unfold valOf;simp only[Ex.kind,yN]at hl hz;simp only;by_cases k4:k=4
 ·rw[if_pos k4];exact⟨.refl m,.inr (.inr (.inl ⟨rfl,by rw[yV];exact h1.con k4⟩)),BD hG hS ha,by rw[yV];exact h1.al.1⟩
 rw[if_neg k4];by_cases k2:k=2\/k=3
 ·rw[if_pos k2];refine⟨.refl m,.inr (.inr (.inr ⟨rfl,rfl,_,rfl,?_⟩)),λr hr=>?_,by simp⟩
  ·unfold atR;grind
  ·rw[Z3.1 hr];exact GF hG hS hx'
 rw[if_neg k2];by_cases k5:k=5
 ·rw[if_pos k5];have⟨g1,b',g2,g3,g4⟩:=GO (hl k5) (fr:=F (.mk k nm num ps b a l)) (ps:=aL ps) (by omega) (h1.lam k5).2 m;exact⟨g1,.inr (.inl ⟨rfl,b',g2,by grind,by rw[g4];exact(h1.lam k5).1⟩),hfr,by rw[Q3];omega⟩
 ·rw[if_neg k5];have⟨g1,b',g2,g3,g4⟩:=GO he (fr:=F (.mk k nm num ps b a l)) (ps:=[]) (by rw[J1];omega) (by simp) m;exact⟨g1,.inl ⟨rfl,b',g2,by rw[g3,Q3],by rw[g4];rfl⟩,hfr,by rw[Q3];omega⟩
theorem Hi(hk:k=4\/k=5\/k=6){als:List dG}{chs:List cT}{next c:Nat}(h:c∈comes {k:=k,rs:=rs,als:=als,chs:=chs,next:=next}):c=next\/c∈chs.map (·.op):=by unfold comes at h;grind
mutual
theorem AU(hG:∀s,G s<gl):∀(x:Ex) (p:List ae),oj F K arC tyC strF arF x p->p.length+eH x<=65536->xU arC tyC strF arF gl (cU F G K strF x) (eH x)
 |.mk k nm num ps b a l,p,hx,hp,S,n,m,hS=>by
  have⟨h1,⟨h2,h3⟩,ha,hb,hA⟩:=id hx;have hF:=IM h2 h3;have hbn:b.names.length=b.len:=by rw[aa.names,Q3,aa.aF]
  have hbl:b.len<=kP b:=Ei b;simp only[eH]at hp;have hfr:∀r∈(F (.mk k nm num ps b a l)).map (eJ G S),kz gl n r:=λr hr=>by obtain⟨s,-,rfl⟩:=Q9.1 hr;exact IJ hG hS s
  have hlen:(p++(aL ps++b.names)).length=p.length+((aL ps).length+b.len):=by rw[Q6,Q6,hbn]
  unfold cU;by_cases h5:k=5
  ·rw[if_pos h5];have⟨g1,b',g2,g3,g4⟩:=GO (AY hG a _ ha (by omega) (h1.hd (.inl h5))) (fr:=F (.mk k nm num ps b a l)) (ps:=aL ps) (by omega) (h1.lam h5).2 m;exact⟨g1.put (.fn _ _ b' g2 (by rw[g3,Q3]) (by rw[g4];exact(h1.lam h5).1)) (Eb (by rw[Q3];omega) rfl rfl rfl),⟨Q1 _,Q2 _ _⟩,
    wZ ⟨hfr,λ_ h=>(Q0 h).elim,λ_ h=>(Q0 h).elim⟩ λc hc=>by simp[comes]at hc⟩
  rw[if_neg h5];by_cases h4:k=4
  ·rw[if_pos h4];exact⟨(Fit.refl m).put (.con _ _ (by rw[yV];exact h1.con h4)) (Eb (by rw[yV];exact h1.al.1) rfl rfl rfl),⟨Q1 _,Q2 _ _⟩,
    wZ ⟨BD hG hS ha,λ_ h=>(Q0 h).elim,λ_ h=>(Q0 h).elim⟩ λc hc=>by simp[comes]at hc⟩
  rw[if_neg h4];by_cases h6:k=6
  ·rw[if_pos h6];simp only;have⟨g1,g2,g3⟩:=AY hG a _ ha (by omega) (h1.hd (by omega)) S n m hS;generalize gj F G K strF a S n m=r at*;have:=h1.app h6;have hrl:=yV (G:=G) S a;refine⟨g1.put (.app _ _ (by rw[Q7,hrl];omega) (by rw[Q7,hrl];omega)) (Eb (by rw[Q7,hrl];omega) rfl rfl rfl),⟨g2.1,by show r.2.1<=_;simp only[eH];omega⟩,wZ ⟨λr' hr=>(BD hG hS ha r' (Z4 hr)).mono g2.1,λ_ h=>(Q0 h).elim,λ_ h=>(Q0 h).elim⟩ λc hc=>?_⟩;rcases Hi (by simp) hc with rfl|hc
   ·exact⟨_,Q1 _,g3⟩
   ·cases hc
  rw[if_neg h6];by_cases h7:k=7
  ·rw[if_pos h7];simp only;have hS1:ia (aZ S b.names n) (n+b.len):=by rw[<-hbn];exact hS.add
   have⟨f1,f2,f3⟩:=Pp hG b _ hb (by omega) (aZ S b.names n) n (n+b.len) m hS1;generalize iw F G K strF b (aZ S b.names n) n m=q at*;have⟨g1,g2,g3⟩:=AY hG a _ ha (by omega) (h1.hd (by omega)) (aZ S b.names n) (n+b.len) q.2 hS1;generalize gj F G K strF a (aZ S b.names n) (n+b.len) q.2=r at*;have hq:q.1≠[]:=λe=>by have:=h1.lt h7;rw[e]at f2;simp at f2;omega
   refine⟨(f1.trans g1).put (.lt _ _ hq λa' ha'=>(f3 a' ha').2.1.mono g1.CN) ⟨by simp,by simp,⟨by rw[f2];omega,λa' ha'=>(f3 a' ha').2.2.2⟩,by simp⟩,⟨by show n<=r.2.1;omega,by show r.2.1<=_;simp only[eH];omega⟩,wZ ⟨λ_ h=>(Q0 h).elim,λa' ha'=>?_,λ_ h=>(Q0 h).elim⟩ λc hc=>?_⟩
   ·have⟨k1,k2,k3⟩:=f3 a' ha';exact⟨by show a'.slot<r.2.1;omega,λr' hr'=>(k3.1 r' hr').mono g2.1⟩
   ·rcases Hi (by simp) hc with rfl|hc
    ·exact⟨_,Q1 _,g3⟩
    ·cases hc
  rw[if_neg h7];by_cases h8:k=8
  ·rw[if_pos h8];simp only;have⟨g1,g2,g3⟩:=AY hG a _ ha (by omega) (h1.hd (by omega)) S n m hS;generalize gj F G K strF a S n m=r at*;have⟨f1,f2,f3,f4⟩:=Pm hG l _ hA (by omega) S r.2.1 r.2.2 (hS.mono g2.1);generalize fx F G K strF l S r.2.1 r.2.2=q at*;have f5:=congrArg List.length f4;rw[Q3,Q3,aa.bB,Q3,<-aa.aF]at f5;refine⟨(g1.trans f1).put (.cs _ _ (by rw[f4];exact h1.alt h8)) ⟨by simp,by simp,by simp,⟨by rw[f5];exact h1.al.2,λc hc=>(f3 c hc).2.2⟩⟩,⟨by show n<=q.2.1;omega,by show q.2.1<=_;simp only[eH];omega⟩,wZ ⟨λ_ h=>(Q0 h).elim,λ_ h=>(Q0 h).elim,λc hc=>(f3 c hc).2.1⟩ λc hc=>?_⟩;rcases Hi (by simp) hc with rfl|hc
   ·exact⟨_,f2.1,g3.mono f1.EH λ_ h=>h⟩
   ·obtain⟨c',h1,rfl⟩:=Q9.1 hc;exact⟨_,Q1 _,(f3 c' h1).1⟩
  rw[if_neg h8];by_cases h9:k=9
  ·rw[if_pos h9];simp only;have⟨e1,e2,e3⟩:=h1.pr h9;have⟨f1,f2,f3,f4⟩:=PA hG a _ ha (by omega) (strF nm).toNat S n m hS;generalize eX F G K strF a (strF nm).toNat S n m=q at*;have hrl:=yV (G:=G) S a;refine⟨f1.put (.pr _ _ _ e1 (by rw[f4];omega) (by rw[Q7,hrl];omega)) ⟨by rw[Q7,hrl];have:=h1.al;omega,by rw[f4];have:=h1.al;omega,by simp,by simp⟩,⟨f2.1,by show q.2.1<=_;simp only[eH];omega⟩,wZ ⟨λr' hr=>(BD hG hS ha r' (Z4 hr)).mono f2.1,λ_ h=>(Q0 h).elim,λ_ h=>(Q0 h).elim⟩ λc hc=>?_⟩;simp[comes]at hc;exact⟨_,Q1 _,f3 c hc⟩
  rw[if_neg h9];refine⟨(Fit.refl m).put (.ref _) (Eb (by simp) rfl rfl rfl),⟨Q1 _,Q2 _ _⟩,wZ ⟨λr hr=>?_,λ_ h=>(Q0 h).elim,λ_ h=>(Q0 h).elim⟩ λc hc=>by simp[comes]at hc⟩;rw[Z3.1 hr];exact GF hG hS hx
theorem AY(hG:∀s,G s<gl):∀(l:aa) (p:List ae),ui F K arC tyC strF arF l p->p.length+jR l<=65536->1<=l.len->xU arC tyC strF arF gl (gj F G K strF l) (jR l)
 |.nil _,_,_,_,h,_,_,_,_=>by simp[aa.len]at h
 |.cons q x l,p,hx,hp,_,S,n,m,hS=>by obtain⟨hx,-⟩:=hx;simp only[jR]at hp|-;have⟨g1,g2,g3⟩:=AU hG x p hx (by omega) S n m hS;unfold gj;exact⟨g1,⟨g2.1,by omega⟩,g3⟩
theorem Px(hG:∀s,G s<gl):∀(x:Ex) (p:List ae),oj F K arC tyC strF arF x p->p.length+eH x<=65536->x.kind=5->xU arC tyC strF arF gl (gN F G K strF x) (jR (zW x))
 |.mk k nm num ps b a l,p,hx,hp,h5,S,n,m,hS=>by
  obtain⟨h1,-,ha,-,-⟩:=hx;have hbn:b.names.length=b.len:=by rw[aa.names,Q3,aa.aF]
  have hbl:b.len<=kP b:=Ei b;have hlen:(p++(aL ps++b.names)).length=p.length+((aL ps).length+b.len):=by rw[Q6,Q6,hbn]
  simp only[eH]at hp;unfold gN;exact AY hG a _ ha (by omega) (h1.hd (.inl h5)) S n m hS
theorem Pp(hG:∀s,G s<gl):∀(l:aa) (p:List ae),ui F K arC tyC strF arF l p->p.length+kP l<=65536+l.len->∀(S:aK) (i n:Nat) (m:Ms),ia S n->
  Fit arC tyC strF arF gl m (iw F G K strF l S i m).2/\(iw F G K strF l S i m).1.length=l.len/\∀a∈(iw F G K strF l S i m).1,a.slot<i+l.len/\qE arC (iw F G K strF l S i m).2.bos a.k a.n a.rs/\(∀r∈a.rs,kz gl n r)/\a.rs.length<=1000000
 |.nil _,_,_,_,_,_,_,m,_=>by unfold iw;exact⟨.refl m,rfl,λa h=>(Q0 h).elim⟩
 |.cons q x l,p,hx,hp,S,i,n,m,hS=>by
  have⟨hx,hl⟩:=hx;simp only[kP,aa.len]at hp;have hbl:=Ei l;have hpx:p.length+eH x<=65536:=by omega
  have hz:(yN x).length+jR (zW x)<=eH x:=by have⟨k,nm,num,ps,b,a,l⟩:=x;simp only[yN,zW,eH];omega
  have e1:=AU hG x p hx hpx;have e2:=Px hG x p hx hpx;have⟨g1,g2,g3⟩:=SM hG hx hpx hz e2 e1 hS m;unfold iw;simp only;generalize valOf F G K S x (gN F G K strF x) (cU F G K strF x) m=r at*;have⟨f1,f2,f3⟩:=Pp hG l p hl (by omega) S (i+1) n r.2 hS;generalize iw F G K strF l S (i+1) r.2=w at*;refine⟨g1.trans f1,by simp[f2,aa.len],λa' ha'=>?_⟩;rcases Q5.1 ha' with rfl|ha'
  ·exact⟨by simp only[aa.len];omega,g2.mono f1.CN,g3⟩
  ·have⟨k1,k2,k3⟩:=f3 a' ha';exact⟨by simp only[aa.len];omega,k2,k3⟩
theorem Pm(hG:∀s,G s<gl):∀(l:aa) (p:List ae),Ch F K arC tyC strF arF l p->p.length+nS l<=65536->∀(S:aK) (n:Nat) (m:Ms),ia S n->
  Fit arC tyC strF arF gl m (fx F G K strF l S n m).2.2/\(n<=(fx F G K strF l S n m).2.1/\(fx F G K strF l S n m).2.1<=n+nS l)/\(∀c∈(fx F G K strF l S n m).1,TS (fx F G K strF l S n m).2.2.ops (lU gl (fx F G K strF l S n m).2.1) c.op/\(∀s∈c.slots,s<(fx F G K strF l S n m).2.1)/\c.slots.length<=1000000)/\(fx F G K strF l S n m).1.map cT.sg=l.bB.map (xk K)
 |.nil _,_,_,_,_,n,m,_=>by unfold fx;exact⟨.refl m,⟨Q1 _,by simp[nS]⟩,λa h=>(Q0 h).elim,rfl⟩
 |.cons q x l,p,hx,hp,S,n,m,hS=>by
  have⟨hx,hl⟩:=hx;simp only[nS]at hp;have⟨g1,g2,g3⟩:=AU hG x _ hx (by rw[Q6];omega) (aZ S (aM (q,x)).vs n) (n+(aM (q,x)).vs.length) m hS.add;unfold fx;simp only;generalize cU F G K strF x (aZ S (aM (q,x)).vs n) (n+(aM (q,x)).vs.length) m=r at*;have⟨f1,f2,f3,f4⟩:=Pm hG l p hl (by omega) S r.2.1 r.2.2 (hS.mono (by omega));generalize fx F G K strF l S r.2.1 r.2.2=w at*;refine⟨g1.trans f1,⟨by omega,by simp only[nS];omega⟩,λc hc=>?_,?_⟩
  ·rcases Q5.1 hc with rfl|hc
   ·refine⟨g3.mono f1.EH λo ho=>ho.mono f2.1,λs hs=>?_,by rw[List.length_range']; omega⟩;have:=(List.mem_range'_1.1 hs).2;omega
   ·exact f3 c hc
  ·rw[J3,f4];simp[aa.bB,aa.list,cT.sg,xk]
theorem PA(hG:∀s,G s<gl):∀(l:aa) (p:List ae),ui F K arC tyC strF arF l p->p.length+jR l<=65536->∀(i:Nat) (S:aK) (n:Nat) (m:Ms),ia S n->
  Fit arC tyC strF arF gl m (eX F G K strF l i S n m).2.2/\(n<=(eX F G K strF l i S n m).2.1/\(eX F G K strF l i S n m).2.1<=n+jR l)/\(∀c∈(eX F G K strF l i S n m).1,TS (eX F G K strF l i S n m).2.2.ops (lU gl (eX F G K strF l i S n m).2.1) c)/\(eX F G K strF l i S n m).1.length=min i l.len
 |.nil _,_,_,_,_,_,n,m,_=>by unfold eX;exact⟨.refl m,⟨Q1 _,by simp[jR]⟩,λa h=>(Q0 h).elim,by simp[aa.len]⟩
 |.cons q x l,p,_,_,0,S,n,m,_=>by unfold eX;simp only;exact⟨.refl m,⟨Q1 _,by omega⟩,λa h=>(Q0 h).elim,by simp⟩
 |.cons q x l,p,hx,hp,i+1,S,n,m,hS=>by
  have⟨hx,hl⟩:=hx;simp only[jR]at hp;have⟨g1,g2,g3⟩:=AU hG x p hx (by omega) S n m hS;unfold eX;simp only;generalize cU F G K strF x S n m=r at*;have⟨f1,f2,f3,f4⟩:=PA hG l p hl (by omega) i S r.2.1 r.2.2 (hS.mono g2.1);generalize eX F G K strF l i S r.2.1 r.2.2=w at*;refine⟨g1.trans f1,⟨by omega,by simp only[jR];omega⟩,λc hc=>?_,by simp[f4,aa.len]⟩;rcases Q5.1 hc with rfl|hc
  ·exact g3.mono f1.EH λo ho=>ho.mono f2.1
  ·exact f3 c hc
theorem Ei:∀l:aa,l.len<=kP l
 |.nil _=>Q1 _
 |.cons _ x l=>by have:=Ei l;simp only[aa.len,kP];omega
end
end
section
variable {strF:ae->Int}
mutual
def pE(strF:ae->Int):Ex->Prop
 |.mk k nm _ ps b a l=>(Cl k a/\(aL ps).length<=32/\(k=9->0<=strF nm/\(strF nm).toNat<=a.len)/\(k≠5->aL ps=[]))/\ou strF b/\ou strF a/\sS strF l
def ou(strF:ae->Int):aa->Prop
 |.nil _=>True
 |.cons _ x l=>pE strF x/\ou strF l
def sS(strF:ae->Int):aa->Prop
 |.nil _=>True
 |.cons p x l=>((aM (p,x)).vs.length<=32/\pE strF x)/\sS strF l
end
theorem ou.list:∀{l:aa},ou strF l->∀p∈l.list,pE strF p.2
 |.nil _,_,p,hp=>by simp[aa.list]at hp
 |.cons q x l,h,p,hp=>by
  simp only[ou]at h;rcases Q5.1 hp with rfl|hp
  ·grind
  ·exact ou.list h.2 p hp
theorem sS.list:∀{l:aa},sS strF l->∀p∈l.list,(aM p).vs.length<=32/\pE strF p.2
 |.nil _,_,p,hp=>by simp[aa.list]at hp
 |.cons q x l,h,p,hp=>by
  simp only[sS]at h;rcases Q5.1 hp with rfl|hp
  ·grind
  ·exact sS.list h.2 p hp
structure Gw(r:Nat×Nat×Ms)(n:Nat)(m:Ms)(z:Nat):Prop where
 ops:r.2.2.ops.length<=m.ops.length+z
 bos:r.2.2.bos.length<=m.bos.length+2*z
 n:n<=r.2.1/\r.2.1<=n+80*z
theorem yh{n':Nat}(h1:m'.ops.length+1<=m.ops.length+z)(h2:m'.bos.length<=m.bos.length+2*z)(h3:n<=n'/\n'<=n+80*z):Gw (eh o n' m') n m z :=
 ⟨by simp only[eh,Q6,Z5,J1];omega,h2,h3⟩
theorem GP(h:∀S n,Gw (run S n m) n m z):(lu fr ps run m).2.ops.length<=m.ops.length+z/\(lu fr ps run m).2.bos.length<=m.bos.length+2*z+1:=by have h:=h (aZ (aZ (λ_=>No) fr 0) ps fr.length) (fr.length+ps.length);unfold lu;simp only[Q6,Z5,J1];exact⟨h.ops,by have:=h.bos;omega⟩
theorem FP(hl:∀S n,Gw (lam S n m) n m (x.size-1))(he:∀S n,Gw (ex S n m) n m x.size/\((ex S n m).2.2.bos.length+1<=m.bos.length+2*x.size/\(ex S n m).2.1+40<=n+80*x.size)):(valOf F G K S x lam ex m).2.ops.length<=m.ops.length+x.size/\(valOf F G K S x lam ex m).2.bos.length<=m.bos.length+2*x.size:=by
 have⟨k,nm,num,ps,b,a,l⟩:=x;have hs:=Ex.size_pos (.mk k nm num ps b a l);unfold valOf;simp only;split
 ·grind
 split
 ·grind
 split
 ·have⟨h1,h2⟩:=GP (fr:=F (.mk k nm num ps b a l)) (ps:=aL ps) (run:=lam) (m:=m) hl;grind
 ·have h:=he (aZ (aZ (λ_=>No) (F (.mk k nm num ps b a l)) 0) [] (F (.mk k nm num ps b a l)).length) ((F (.mk k nm num ps b a l)).length+0);obtain⟨⟨h1,h2,h3⟩,h4,-⟩:=h;unfold lu;grind
mutual
theorem mU:∀(x:Ex),pE strF x->∀(S:aK) (n:Nat) (m:Ms),Gw (cU F G K strF x S n m) n m x.size/\((cU F G K strF x S n m).2.2.bos.length+1<=m.bos.length+2*x.size/\(cU F G K strF x S n m).2.1+40<=n+80*x.size)
 |.mk k nm num ps b a l,⟨_,hb,ha,hl⟩,S,n,m=>by
  have leaf:∀o:bC,Gw (eh o n m) n m (Ex.size (.mk k nm num ps b a l))/\((eh o n m).2.2.bos.length+1<=m.bos.length+2*Ex.size (.mk k nm num ps b a l)/\(eh o n m).2.1+40<=n+80*Ex.size (.mk k nm num ps b a l)):=λo=>
   ⟨yh (by simp only[Ex.size];omega) (by omega) ⟨Q1 _,by omega⟩,by simp only[eh,Ex.size];omega⟩
  unfold cU;by_cases h5:k=5
  ·rw[if_pos h5];simp only;have⟨h1,h2⟩:=GP (fr:=F (.mk k nm num ps b a l)) (ps:=aL ps) (run:=gj F G K strF a) (m:=m) (z:=a.size) λS n=>AZ a ha S n m
   refine⟨yh (by simp only[Ex.size];omega) (by simp only[Ex.size];omega) ⟨Q1 _,by omega⟩,?_⟩;simp only[eh,Ex.size];omega
  rw[if_neg h5];by_cases h4:k=4
  ·rw[if_pos h4];exact leaf _
  rw[if_neg h4];by_cases h6:k=6
  ·rw[if_pos h6];simp only;have h:=AZ a ha S n m;generalize gj F G K strF a S n m=r at*;have⟨h1,h2,h3⟩:=h;refine⟨yh (by simp only[Ex.size];omega) (by simp only[Ex.size];omega) ⟨by omega,by simp only[Ex.size];omega⟩,?_⟩;simp only[eh,Ex.size];omega
  rw[if_neg h6];by_cases h7:k=7
  ·rw[if_pos h7];simp only;have hq:=Pq b hb (aZ S b.names n) n m;generalize iw F G K strF b (aZ S b.names n) n m=q at*;have h:=AZ a ha (aZ S b.names n) (n+b.len) q.2;generalize gj F G K strF a (aZ S b.names n) (n+b.len) q.2=r at*;have⟨h1,h2,h3⟩:=h;have:=b.cq;refine⟨yh (by simp only[Ex.size];omega) (by simp only[Ex.size];omega) ⟨by omega,by simp only[Ex.size];omega⟩,?_⟩;simp only[eh,Ex.size];omega
  rw[if_neg h7];by_cases h8:k=8
  ·rw[if_pos h8];simp only;have h:=AZ a ha S n m;generalize gj F G K strF a S n m=r at*;have⟨h1,h2,h3⟩:=h;have hq:=Pn l hl S r.2.1 r.2.2;generalize fx F G K strF l S r.2.1 r.2.2=q at*;have⟨q1,q2,q3⟩:=hq;refine⟨yh (by simp only[Ex.size];omega) (by simp only[Ex.size];omega) ⟨by omega,by simp only[Ex.size];omega⟩,?_⟩;simp only[eh,Ex.size];omega
  rw[if_neg h8];by_cases h9:k=9
  ·rw[if_pos h9];simp only;have h:=PB a ha (strF nm).toNat S n m;generalize eX F G K strF a (strF nm).toNat S n m=q at*;have⟨h1,h2,h3⟩:=h;refine⟨yh (by simp only[Ex.size];omega) (by simp only[Ex.size];omega) ⟨by omega,by simp only[Ex.size];omega⟩,?_⟩;simp only[eh,Ex.size];omega
  rw[if_neg h9];exact leaf _
theorem AZ:∀(l:aa),ou strF l->∀(S:aK) (n:Nat) (m:Ms),Gw (gj F G K strF l S n m) n m l.size
 |.nil _,_,S,n,m=>by unfold gj;exact⟨Q2 ..,Q2 ..,Q1 _,Q2 ..⟩
 |.cons _ x l,⟨hx,_⟩,S,n,m=>by unfold gj;obtain⟨⟨h1,h2,h3⟩,-⟩:=mU x hx S n m;exact⟨by simp only[aa.size];omega,by simp only[aa.size];omega,h3.1,by simp only[aa.size];omega⟩
theorem Ee:∀(x:Ex),pE strF x->∀(S:aK) (n:Nat) (m:Ms),Gw (gN F G K strF x S n m) n m (x.size-1)
 |.mk k nm num ps b a l,⟨_,hb,ha,hl⟩,S,n,m=>by unfold gN;have⟨h1,h2,h3⟩:=AZ a ha S n m;exact⟨by simp only[Ex.size];omega,by simp only[Ex.size];omega,h3.1,by simp only[Ex.size];omega⟩
theorem Pq:∀(l:aa),ou strF l->∀(S:aK) (i:Nat) (m:Ms),(iw F G K strF l S i m).2.ops.length<=m.ops.length+l.size/\(iw F G K strF l S i m).2.bos.length<=m.bos.length+2*l.size
 |.nil _,_,_,_,m=>by unfold iw;exact⟨Q2 ..,Q2 ..⟩
 |.cons _ x l,⟨hx,hl⟩,S,i,m=>by unfold iw;simp only;have h:=FP (F:=F) (G:=G) (K:=K) (S:=S) (lam:=gN F G K strF x) (ex:=cU F G K strF x) (x:=x) (m:=m) (λS n=>Ee x hx S n m) (λS n=>mU x hx S n m);generalize valOf F G K S x (gN F G K strF x) (cU F G K strF x) m=r at*;have:=Pq l hl S (i+1) r.2;simp only[aa.size];omega
theorem Pn:∀(l:aa),sS strF l->∀(S:aK) (n:Nat) (m:Ms),(fx F G K strF l S n m).2.2.ops.length<=m.ops.length+l.size/\(fx F G K strF l S n m).2.2.bos.length<=m.bos.length+2*l.size/\n<=(fx F G K strF l S n m).2.1/\(fx F G K strF l S n m).2.1<=n+80*l.size
 |.nil _,_,_,n,m=>by unfold fx;exact⟨Q2 ..,Q2 ..,Q1 _,by show n<=_;omega⟩
 |.cons p x l,⟨hx,hl⟩,S,n,m=>by unfold fx;simp only;have⟨⟨h1,h2,h3⟩,h4⟩:=mU x hx.2 (aZ S (aM (p,x)).vs n) (n+(aM (p,x)).vs.length) m;generalize cU F G K strF x (aZ S (aM (p,x)).vs n) (n+(aM (p,x)).vs.length) m=r at*;have:=Pn l hl S r.2.1 r.2.2;have:=hx.1;simp only[aa.size,aa.len];omega
theorem PB:∀(l:aa),ou strF l->∀(i:Nat) (S:aK) (n:Nat) (m:Ms),(eX F G K strF l i S n m).2.2.ops.length<=m.ops.length+l.size/\(eX F G K strF l i S n m).2.2.bos.length<=m.bos.length+2*l.size/\n<=(eX F G K strF l i S n m).2.1/\(eX F G K strF l i S n m).2.1<=n+80*l.size
 |.nil _,_,_,_,n,m=>by unfold eX;exact⟨Q2 ..,Q2 ..,Q1 _,Q2 ..⟩
 |.cons _ x l,⟨hx,hl⟩,0,S,n,m=>by unfold eX;exact⟨Q2 ..,Q2 ..,Q1 _,Q2 ..⟩
 |.cons _ x l,⟨hx,hl⟩,i+1,S,n,m=>by unfold eX;simp only;obtain⟨⟨h1,h2,h3⟩,-⟩:=mU x hx S n m;generalize cU F G K strF x S n m=r at*;have:=PB l hl i S r.2.1 r.2.2;simp only[aa.size];omega
end
end
section
variable {strF arF:ae->Int}
theorem adT:(valOf F G K S x lam ex m).1.1=3\/(valOf F G K S x lam ex m).1.1=4\/(valOf F G K S x lam ex m).1.2.2=(F x).map (eJ G S):=by unfold valOf;grind
theorem oj.none(h:oj F K arC tyC strF arF x []):F x=[]:=by have⟨k,nm,num,ps,b,a,l⟩:=x;obtain⟨-,⟨-,h3⟩,-⟩:=h;exact List.eq_nil_iff_forall_not_mem.2 λs hs=>Q0 (h3 s hs)
theorem Ps(hG:∀s,G s<gl):∀(l:aa),(∀p∈l.list,oj F K arC tyC strF arF p.2 []/\eH p.2<=65536)->∀(m:Ms),
  Fit arC tyC strF arF gl m (jf F G K strF l m).2/\(jf F G K strF l m).1.length=l.len/\∀g∈(jf F G K strF l m).1,qE arC (jf F G K strF l m).2.bos g.k g.n g.rs/\(∀r∈g.rs,kz gl 0 r)/\g.rs.length<=1000000
 |.nil _,_,m=>by exact⟨.refl m,rfl,λg h=>(Q0 h).elim⟩
 |.cons q x l,h,m=>by
  have⟨hx,hz⟩:=h (q,x) (List.mem_cons_self ..);have hpx:([]:List ae).length+eH x<=65536:=by grind
  have hzz:(yN x).length+jR (zW x)<=eH x:=by have⟨k,nm,num,ps,b,a,l⟩:=x;simp only[yN,zW,eH];omega
  have e1:=AU (F:=F) (K:=K) (arC:=arC) (tyC:=tyC) (arF:=arF) hG x [] hx hpx;have e2:=Px (F:=F) (K:=K) (arC:=arC) (tyC:=tyC) (arF:=arF) hG x [] hx hpx;have⟨g1,g2,g3⟩:=SM hG hx hpx hzz e2 e1 (ia.nil 0) m;have hrs:=adT (F:=F) (G:=G) (K:=K) (S:=λ_=>No) (x:=x) (lam:=gN F G K strF x) (ex:=cU F G K strF x) (m:=m);unfold jf;generalize valOf F G K (λ_=>No) x (gN F G K strF x) (cU F G K strF x) m=r at*;have⟨f1,f2,f3⟩:=Ps hG l (λp hp=>h p (J9 _ hp)) r.2;have e:(if r.1.1=3\/r.1.1=4 then r.1.2.2 else[])=r.1.2.2:=by
   by_cases h34:r.1.1=3\/r.1.1=4
   ·grind
   ·rw[if_neg h34];rcases hrs with h|h|h
    ·grind
    ·grind
    ·rw[h,oj.none hx];rfl
  refine⟨g1.trans f1,by simp[f2,aa.len],λg hg=>?_⟩;rcases Q5.1 hg with rfl|hg
  ·simp only[e];exact⟨g2.mono f1.CN,g3⟩
  grind
end
end Go.Ev
namespace Go.Proofs
variable {F:Ex->List ae}{G K:ae->Nat}{S:aK}{a b gl k n z:Nat}{arC:Nat->Option Int}{ex lam run:mE}{f g:FuncId}{fr ps:List ae}{m m':Ms}{o:bC}{rs:List Rf}{st:St}{tyC:Nat->ae}{w:World}{x:Ex}{xs:List AV}{α:Type}
section
open Go.Shelf
def Tryz.Lf:Go.Shelf.Ren:=⟨λ|189=>74|125=>126|257=>125|128=>171|129=>172|294=>162|295=>163|296=>164|297=>165|298=>166|299=>167|216=>168|300=>169|301=>170|328=>209|329=>210|330=>211|331=>212|332=>213|215=>214|343=>224|n=>n,λ|28=>50|3=>3|46=>202|0=>0|51=>240|53=>242|4=>4|183=>234|182=>233|131=>211|5=>5|9=>9|218=>263|222=>227|228=>275|229=>276|n=>n,λ|n=>n⟩
theorem Tryz.T0:Go.Proofs.Lays.n189 prog Tryz.Lf:={
 mixed:=by kernel_rfl
 f125:=func126.trans (congrArg So (by kernel_rfl))
 f128:=func171.trans (congrArg So (by kernel_rfl))
 f129:=func172.trans (congrArg So (by kernel_rfl))
 f189:=func74.trans (congrArg So (by kernel_rfl))
 f215:=func214.trans (congrArg So (by kernel_rfl))
 f216:=func168.trans (congrArg So (by kernel_rfl))
 f257:=func125.trans (congrArg So (by kernel_rfl))
 f294:=func162.trans (congrArg So (by kernel_rfl))
 f295:=func163.trans (congrArg So (by kernel_rfl))
 f296:=func164.trans (congrArg So (by kernel_rfl))
 f297:=func165.trans (congrArg So (by kernel_rfl))
 f298:=func166.trans (congrArg So (by kernel_rfl))
 f299:=func167.trans (congrArg So (by kernel_rfl))
 f300:=func169.trans (congrArg So (by kernel_rfl))
 f301:=func170.trans (congrArg So (by kernel_rfl))
 f328:=func209.trans (congrArg So (by kernel_rfl))
 f329:=func210.trans (congrArg So (by kernel_rfl))
 f330:=func211.trans (congrArg So (by kernel_rfl))
 f331:=func212.trans (congrArg So (by kernel_rfl))
 f332:=func213.trans (congrArg So (by kernel_rfl))
 f343:=func224.trans (congrArg So (by kernel_rfl))
 t0:=underlying0
 a0:=isAgg0
 z0:=sizeOf0
 v0:=zeroValue0
 t3:=underlying3
 a3:=isAgg3
 z3:=sizeOf3
 v3:=zeroValue3
 t4:=underlying4
 a4:=isAgg4
 z4:=sizeOf4
 v4:=zeroValue4
 t5:=underlying5
 a5:=isAgg5
 z5:=sizeOf5
 v5:=zeroValue5
 t9:=underlying9
 a9:=isAgg9
 z9:=sizeOf9
 v9:=zeroValue9
 t28:=underlying50
 a28:=isAgg50
 z28:=sizeOf50
 v28:=zeroValue50
 t46:=underlying202
 a46:=isAgg202
 z46:=sizeOf202
 v46:=zeroValue202
 t51:=underlying240
 a51:=isAgg240
 z51:=sizeOf240
 v51:=zeroValue240
 t53:=underlying242
 a53:=isAgg242
 z53:=sizeOf242
 v53:=zeroValue242
 t131:=underlying211
 a131:=isAgg211
 z131:=sizeOf211
 v131:=zeroValue211
 t182:=underlying233
 a182:=isAgg233
 z182:=sizeOf233
 v182:=zeroValue233
 t183:=underlying234
 a183:=isAgg234
 z183:=sizeOf234
 v183:=zeroValue234
 t218:=underlying263
 a218:=isAgg263
 z218:=sizeOf263
 v218:=zeroValue263
 t222:=underlying227
 a222:=isAgg227
 z222:=sizeOf227
 v222:=zeroValue227
 t228:=underlying275
 a228:=isAgg275
 z228:=sizeOf275
 v228:=zeroValue275
 t229:=underlying276
 a229:=isAgg276
 z229:=sizeOf276
 v229:=zeroValue276}
def Tryz.Gl:Go.Shelf.Ren:=⟨λ|190=>200|125=>126|258=>223|128=>171|129=>172|302=>231|303=>232|304=>233|305=>234|306=>235|307=>236|308=>87|309=>237|310=>238|333=>241|329=>210|330=>211|334=>242|335=>243|336=>134|344=>244|n=>n,λ|31=>43|9=>9|3=>3|46=>202|0=>0|51=>240|53=>242|4=>4|183=>234|182=>233|131=>211|5=>5|218=>263|222=>227|228=>275|229=>276|n=>n,λ|n=>n⟩
theorem Tryz.Lg:Go.Proofs.Lays.n190 prog Tryz.Gl:={
 mixed:=by kernel_rfl
 f125:=func126.trans (congrArg So (by kernel_rfl))
 f128:=func171.trans (congrArg So (by kernel_rfl))
 f129:=func172.trans (congrArg So (by kernel_rfl))
 f190:=func200.trans (congrArg So (by kernel_rfl))
 f258:=func223.trans (congrArg So (by kernel_rfl))
 f302:=func231.trans (congrArg So (by kernel_rfl))
 f303:=func232.trans (congrArg So (by kernel_rfl))
 f304:=func233.trans (congrArg So (by kernel_rfl))
 f305:=func234.trans (congrArg So (by kernel_rfl))
 f306:=func235.trans (congrArg So (by kernel_rfl))
 f307:=func236.trans (congrArg So (by kernel_rfl))
 f308:=func87.trans (congrArg So (by kernel_rfl))
 f309:=func237.trans (congrArg So (by kernel_rfl))
 f310:=func238.trans (congrArg So (by kernel_rfl))
 f329:=func210.trans (congrArg So (by kernel_rfl))
 f330:=func211.trans (congrArg So (by kernel_rfl))
 f333:=func241.trans (congrArg So (by kernel_rfl))
 f334:=func242.trans (congrArg So (by kernel_rfl))
 f335:=func243.trans (congrArg So (by kernel_rfl))
 f336:=func134.trans (congrArg So (by kernel_rfl))
 f344:=func244.trans (congrArg So (by kernel_rfl))
 t0:=underlying0
 a0:=isAgg0
 z0:=sizeOf0
 v0:=zeroValue0
 t3:=underlying3
 a3:=isAgg3
 z3:=sizeOf3
 v3:=zeroValue3
 t4:=underlying4
 a4:=isAgg4
 z4:=sizeOf4
 v4:=zeroValue4
 t5:=underlying5
 a5:=isAgg5
 z5:=sizeOf5
 v5:=zeroValue5
 t9:=underlying9
 a9:=isAgg9
 z9:=sizeOf9
 v9:=zeroValue9
 t31:=underlying43
 a31:=isAgg43
 z31:=sizeOf43
 v31:=zeroValue43
 t46:=underlying202
 a46:=isAgg202
 z46:=sizeOf202
 v46:=zeroValue202
 t51:=underlying240
 a51:=isAgg240
 z51:=sizeOf240
 v51:=zeroValue240
 t53:=underlying242
 a53:=isAgg242
 z53:=sizeOf242
 v53:=zeroValue242
 t131:=underlying211
 a131:=isAgg211
 z131:=sizeOf211
 v131:=zeroValue211
 t182:=underlying233
 a182:=isAgg233
 z182:=sizeOf233
 v182:=zeroValue233
 t183:=underlying234
 a183:=isAgg234
 z183:=sizeOf234
 v183:=zeroValue234
 t218:=underlying263
 a218:=isAgg263
 z218:=sizeOf263
 v218:=zeroValue263
 t222:=underlying227
 a222:=isAgg227
 z222:=sizeOf227
 v222:=zeroValue227
 t228:=underlying275
 a228:=isAgg275
 z228:=sizeOf275
 v228:=zeroValue275
 t229:=underlying276
 a229:=isAgg276
 z229:=sizeOf276
 v229:=zeroValue276}
end
end Go.Proofs
namespace Go.Proofs.YtnmofhngblebiaaGreatDoor
variable {F:Ex->List ae}{G K:ae->Nat}{S:aK}{a b gl k n z:Nat}{arC:Nat->Option Int}{ex lam run:mE}{f g:FuncId}{fr ps:List ae}{m m':Ms}{o:bC}{rs:List Rf}{st:St}{tyC:Nat->ae}{w:World}{x:Ex}{xs:List AV}{α:Type}
section
open Go.Shelf
def TryzL.YX:Go.Shelf.Ren:=⟨λ|171=>37|243=>76|246=>128|283=>173|284=>174|285=>175|286=>176|129=>172|317=>215|318=>216|319=>217|320=>218|337=>225|338=>226|n=>n,λ|3=>3|9=>9|2=>2|4=>4|171=>243|0=>0|53=>242|37=>98|5=>5|173=>245|212=>270|51=>240|20=>20|213=>271|46=>202|232=>284|233=>285|n=>n,λ|17=>0|18=>2|19=>3|n=>n⟩
theorem TryzL.OP:Go.Proofs.LaysM.n171 prog TryzL.YX:={
 mixed:=by kernel_rfl
 f129:=func172.trans (congrArg So (by kernel_rfl))
 f171:=func37.trans (congrArg So (by kernel_rfl))
 f243:=func76.trans (congrArg So (by kernel_rfl))
 f246:=func128.trans (congrArg So (by kernel_rfl))
 f283:=func173.trans (congrArg So (by kernel_rfl))
 f284:=func174.trans (congrArg So (by kernel_rfl))
 f285:=func175.trans (congrArg So (by kernel_rfl))
 f286:=func176.trans (congrArg So (by kernel_rfl))
 f317:=func215.trans (congrArg So (by kernel_rfl))
 f318:=func216.trans (congrArg So (by kernel_rfl))
 f319:=func217.trans (congrArg So (by kernel_rfl))
 f320:=func218.trans (congrArg So (by kernel_rfl))
 f337:=func225.trans (congrArg So (by kernel_rfl))
 f338:=func226.trans (congrArg So (by kernel_rfl))
 t0:=underlying0
 a0:=isAgg0
 z0:=sizeOf0
 v0:=zeroValue0
 t2:=underlying2
 a2:=isAgg2
 z2:=sizeOf2
 v2:=zeroValue2
 t3:=underlying3
 a3:=isAgg3
 z3:=sizeOf3
 v3:=zeroValue3
 t4:=underlying4
 a4:=isAgg4
 z4:=sizeOf4
 v4:=zeroValue4
 t5:=underlying5
 a5:=isAgg5
 z5:=sizeOf5
 v5:=zeroValue5
 t9:=underlying9
 a9:=isAgg9
 z9:=sizeOf9
 v9:=zeroValue9
 t20:=underlying20
 a20:=isAgg20
 z20:=sizeOf20
 v20:=zeroValue20
 t37:=underlying98
 a37:=isAgg98
 z37:=sizeOf98
 v37:=zeroValue98
 t46:=underlying202
 a46:=isAgg202
 z46:=sizeOf202
 v46:=zeroValue202
 t51:=underlying240
 a51:=isAgg240
 z51:=sizeOf240
 v51:=zeroValue240
 t53:=underlying242
 a53:=isAgg242
 z53:=sizeOf242
 v53:=zeroValue242
 t171:=underlying243
 a171:=isAgg243
 z171:=sizeOf243
 v171:=zeroValue243
 t173:=underlying245
 a173:=isAgg245
 z173:=sizeOf245
 v173:=zeroValue245
 t212:=underlying270
 a212:=isAgg270
 z212:=sizeOf270
 v212:=zeroValue270
 t213:=underlying271
 a213:=isAgg271
 z213:=sizeOf271
 t232:=underlying284
 a232:=isAgg284
 z232:=sizeOf284
 v232:=zeroValue284
 t233:=underlying285
 a233:=isAgg285
 z233:=sizeOf285
 v233:=zeroValue285
 g17:=by kernel_rfl
 g18:=by kernel_rfl
 g19:=by kernel_rfl
 i0:=by kernel_rfl
 i2:=by kernel_rfl
 i3:=by kernel_rfl
 i4:=by kernel_rfl
 i5:=by kernel_rfl
 i9:=by kernel_rfl
 i20:=by kernel_rfl
 i37:=by kernel_rfl
 i46:=by kernel_rfl
 i51:=by kernel_rfl
 i53:=by kernel_rfl
 i171:=by kernel_rfl
 i173:=by kernel_rfl
 i212:=by kernel_rfl
 i232:=by kernel_rfl
 i233:=by kernel_rfl
 m17:=by kernel_rfl
 m18:=by kernel_rfl
 m19:=by kernel_rfl}
def TryzL.YW:Go.Shelf.Ren:=⟨λ|5=>93|7=>138|n=>n,λ|23=>127|25=>9|3=>9|4=>4|20=>20|n=>n,λ|n=>n⟩
theorem TryzL.YV:Go.Proofs.SlLaysW.n5 prog TryzL.YW:={
 mixed:=by kernel_rfl
 f5:=⟨f93.name,by decide,func93.trans (congrArg So (by kernel_rfl))⟩
 f7:=func138.trans (congrArg So (by kernel_rfl))
 t4:=underlying4
 a4:=isAgg4
 z4:=sizeOf4
 v4:=zeroValue4
 t20:=underlying20
 a20:=isAgg20
 z20:=sizeOf20
 v20:=zeroValue20
 t23:=underlying127
 a23:=isAgg127
 z23:=sizeOf127
 v23:=zeroValue127}
theorem ade (h:∃ty fz,w.heap[0]? = So (.cells Go.Ev.wV ty fz)):Lib.TabIs prog w "internal/strconv.uint64pow10" .u64 Lib.pow10Tab:=by have⟨ty,fz,h⟩:=h;unfold Lib.TabIs World.var?;rw[show prog.globalNamed "internal/strconv.uint64pow10"=So 0 from TryzL.OP.m17];simp only[Q4,h];rfl
theorem YD(n:Nat)(w:World)(h2:n<9223372036854775808)(h:∃ty fz,w.heap[0]? = So (.cells Go.Ev.wV ty fz)):
  Calls prog 37 #[.int .i64 (n:Int)] w λe w'=>e=.returned (.string ⟨(Lib.itoa n).toArray⟩)/\∃k os,w'=Sort.grow (w.drewN k) os :=
 Any.strconv_Itoa TryzL.OP n (by omega) (by omega) w (ade h)
theorem VE(b:Nat)(es:Array MapEntry)(c:Nat)(w:World)(hb:w.heap[b]? = So (.map es c)):
  Calls prog 93 #[.map (So b)] w λe w'=>e=.returned (.map (So w.heap.size))/\w'=w.alloc (.map es c):=
 AnyW.maps_Clone TryzL.YV b es c w hb
end
section
open Go.Ev Go.Sort
def nQ(n:Nat):ae:=(Lib.itoa (n:Int)).map UInt8.toNat
open Classical in
def vt(f:FuncId)(xs:List AV)(st:St):Option (AV×St):=
 if f=37/\pD st then match xs with
  |[.i .i64 (.ofNat n)]=>if n<9223372036854775808 then So (.s (nQ n),st) else No
  |_=>No
 else No
theorem YA(h:pD st)(h2:n<9223372036854775808):vt 37 [.i .i64 (n:Int)] st=So (.s (nQ n),st):=by
 unfold vt;rw[if_pos ⟨rfl,h⟩];show(if n<9223372036854775808 then So (AV.s (nQ n),st) else No)=_
 rw[if_pos h2]
theorem AI(h:f≠37):vt f xs st=none:=by unfold vt;rw[if_neg (λhh=>h hh.1)]
theorem YB:um prog vt:=by
 refine⟨λf xs st=>?_,λ{ks E w st st' f xs us v} hr hc h hn=>?_⟩
 ·unfold vt;split
  ·split
   ·split
    ·exact fp
    ·exact bu
   ·exact bu
  ·exact bu
 ·unfold vt at h;split at h
  case isFalse=>cases h
  rename_i hg;obtain⟨rfl,t,ht⟩:=hg;split at h
  case h_2=>cases h
  rename_i n;split at h
  case isFalse=>cases h
  rename_i hb;cases h;have⟨ty,fz,hi⟩:=hr.tys _ _ _ _ ht;have hw:=hr.imm _ _ hi;cases hc with
  |cons _ _ u us h1 h2=>
  cases h2;cases h1;obtain⟨W,h1,k,os,rfl⟩:=CV (ks:=ks) (YD n w hb ⟨ty,fz,hw⟩);exact⟨E,_,_,h1,acO hr k os,.s ⟨(Lib.itoa (n:Int)).toArray⟩⟩
theorem acJ:um prog (oZ 200):=
 acz (λw=>Any.slices_Sort_string_none (P:=prog) (ρ:=Tryz.Gl) {Tryz.Lg with} No 0 w) λblk off cap ss w=>Any.slices_Sort_string (P:=prog) (ρ:=Tryz.Gl) {Tryz.Lg with} blk off cap ss w
theorem acI:um prog (tT 74):=
 acB λblk off cap ss w=>Any.slices_Sort_int (P:=prog) (ρ:=Tryz.Lf) {Tryz.T0 with} blk off cap ss w
