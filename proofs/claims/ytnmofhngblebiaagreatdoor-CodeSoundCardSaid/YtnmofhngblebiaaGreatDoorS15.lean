/- A part of the proof. -/
import Derived.Test.YtnmofhngblebiaaGreatDoorS14
set_option maxRecDepth 100000
open Option renaming some->So,none->No
open Bool renaming true->Tt
open Nat renaming lt_of_lt_of_le->Q0,le_refl->Q5,le_of_ble_eq_true->J8,le_trans->Z7,zero_add->Z9
open List renaming mem_cons->Q1,cons_append->Q2,nil_append->Q3,length_map->Q4,getElem_mem->Q6,mem_singleton->Q7,all_cons->Q8,all_nil->Q9,mem_append->J3,mem_append_right->J4,length_append->J5,mem_map->J6,flatMap_append->Z0,getElem_map->Z3,map_map->Z4,append_nil->Z5,map_drop->Z6,mem_append_left->Z8,append_assoc->K8
open Bool renaming and_true->J1,and_eq_true->J9
open Go.Proofs.Tryz
open Go.Proofs.Tryz renaming prog->π
noncomputable section
open Go.Ev
namespace Go.Proofs.YtnmofhngblebiaaGreatDoor
variable {A F F' F2 Fi al:List Nat}{C:dT}{L:List dG}{N br e i j lo lo' n n0 n2 nb ni r r14 r7 rb ro rx ty z:Nat}{R:Nat×Nat×Ms}{a b l:aa}{bc cs new:List AV}{bn nm:ae}{c:Option Self}{d:dG}{fs fs0:List aK}{k num:Int}{m m0 m2 mi:Ms}{o:bC}{ps rv sv sv0 v:AV}{q:Nat->Bool}{s s' s0 st:St}{t:Tr AV}{x:Ex}
section
variable {r5:Nat}
theorem QV(aT:aa.Ty a 0)(hi:i<=a.len)(hz:a.len<=1000000)(hC:Cx C s m F br n sv fs)(hN:fs.length+1000100<=N):
  ∃w s',gR π s 44 (a.slice 7) (So (.i .i64 (i:Int))) No No=So w/\(Tw c N).call 57 [.p C.mr 0,w,.p br 0] s=So (bz ((gQ (ax C.Gf) (aS fs) a).drop i),s')/\Kp [] [] s s':=by
 have hl:(a.list.map (·.2)).length=a.len:=by rw[Q4,aa.aF]
 have key:∃w,gR π s 44 (a.slice 7) (So (.i .i64 (i:Int))) No No=So w/\gA w 7 (((a.list.map (·.2)).map Ex.cells).drop i):=by
  cases a with
  |nil f=>
   have:i=0:=by simpa[aa.len]using hi
   subst this;cases f with
   |true=>exact⟨.sn,by kernel_rfl,.inl ⟨rfl,rfl⟩,by simp[aa.list]⟩
   |false=>exact⟨.rs [] 0 7,by kernel_rfl,.inr rfl,by simp[aa.list]⟩
  |cons p x a=>exact Zz (st:=s) (wm aT) rX acu (i:=i) (by rw[Q4,hl];omega) (by simp[aa.list])
 have⟨w,h1,h2⟩:=key;rw[<-Z6]at h2;have⟨s1,q1,q2⟩:=Fc (c:=c) (l:=(a.list.map (·.2)).drop i) h2 (λx hx=>by obtain⟨y,hy,rfl⟩:=J6.1 (List.mem_of_mem_drop hx);exact(aa.dC aT y hy).2) (by rw[List.length_drop,hl];omega) hC.ic hC.wx (N:=N) (by omega);have er:((a.list.map (·.2)).drop i).map (atR (ax C.Gf) (aS fs))=(gQ (ax C.Gf) (aS fs) a).drop i:=by rw[Z6,Z4];rfl
 rw[er]at q1;exact⟨w,s1,h1,q1,q2⟩
theorem Ii{p0:List AV}{x0:Ex}(aT:aa.Ty (.cons p0 x0 a) 0):∃r,indexAddr π 44 (aa.slice (.cons p0 x0 a) 7) (.i .i64 0)=So (.rp (x0.cells++r)):=by have⟨ar,ix⟩:=(wm aT).at rX (k:=0) (by simp[aa.list]);simp only[aa.list,List.map_cons,List.getElem_cons_zero]at ix;exact⟨ar,ix⟩
theorem aaR(hx:eQ (.mk 6 nm num ps b a l))(hI:∀p∈a.list,jF c p.2)(hs:Ex.size (.mk 6 nm num ps b a l)<=1000000)(hb:Bd (.mk 6 nm num ps b a l) m n fs.length (N+1)):uw c C (.mk 6 nm num ps b a l) st m F br n sv fs N:=by
 intro h0 t s rx r5 r7 h hC;have hN:=hb.N;have hops:=hb.ops;have hbos:=hb.bos;have hn:=hb.n;have hd:=hb.d;have ra:=h.ra;have aT:aa.Ty a 0:=by have:=hx.ty;simp only[Ex.Ty]at this;exact this.2.2.2.1
 have al:=aa.cq a;have hsz:a.size+1<=Ex.size (.mk 6 nm num ps b a l):=by simp only[Ex.size];omega
 have a1:1<=a.len:=hx.wd.1.1 (by omega);cases a with
 |nil f=>simp[aa.len]at a1
 |cons p0 x0 a=>
 have ox0:=hx.arg (p0,x0) (by simp[aa.list]);have z0:x0.size+1<=Ex.size (.mk 6 nm num ps b (.cons p0 x0 a) l):=by simp only[aa.size]at hsz;omega
 have⟨ar,ix⟩:=Ii aT;have lda:=λst:St=>ei cM gT aX (st:=st) (r:=ar) x0.bp
 have bdx:Bd x0 m n fs.length N:=⟨by omega,by omega,by omega,by omega,by omega⟩;have⟨s1,F1,q1,q2,q3⟩:=hI (p0,x0) (by simp[aa.list]) C s m F br n sv fs N hC bdx;simp only at q1 q2 q3;have eR:cg C (.mk 6 nm num ps b (.cons p0 x0 a) l) fs n m=eh {k:=4,rs:=(gQ (ax C.Gf) (aS fs) (.cons p0 x0 a)).drop 1,next:=(cg C x0 fs n m).1} (cg C x0 fs n m).2.1 (cg C x0 fs n m).2.2:=by unfold cg;rw[cU];simp[gj]
 obtain⟨⟨g1,g2,g3⟩,-⟩:=mU (F:=FF C.Gf) (G:=ax C.Gf) (K:=ax C.Kf) x0 ox0.wd (aS fs) n m;have g1:(cg C x0 fs n m).2.2.ops.length<=m.ops.length+x0.size:=g1;rw[eR];simp only[eh];generalize cg C x0 fs n m=R at*;have⟨w,s2,y1,y2,y3⟩:=QV (c:=c) (N:=N) (i:=1) aT a1 (by omega) q2 (by omega);generalize (gQ (ax C.Gf) (aS fs) (.cons p0 x0 a)).drop 1=rs at*;have C2:=q2.new y3;have⟨s3,F',p1,p2,p3⟩:=Jx (c:=c) (N:=N) (o:={k:=4,rs:=rs,next:=R.1}) C2.mx (by omega) (by omega);have hbr:=hC.lt;have hmr:=hC.mx.lt.1.1;have⟨c1x,c15⟩:=h.uQ h0 q3;have r15:rd s1 r5 0 1=So [.p br 0]:=by rw[ai c15];rfl
 have ra1:rd s1 rx 5 1=So [aa.slice (.cons p0 x0 a) 7]:=by rw[ai c1x];rfl
 generalize aa.slice (.cons p0 x0 a) 7=av at*;refine⟨s3,F',sv,?_,p2,C2.uL p3 (by simp;omega),(q3.step y3 (by simp) (by simp)).call p3 (by simp)⟩;unfold qL;have e87:bC.cells {k:=4,rs:=rs,next:=R.1}=[.i .i64 4,.i .i64 0,.s [],bz rs,.sn,.sn,.sn,iN R.1]:=rfl;rw[e87]at p1;have y1:gR π s1 44 av (So (.i .i64 1)) No No=So w:=y1;simp only[dJ]at q1 p1;simp[lX,aw,f100,h.t4,h.rk,aY];rw[bP (by kernel_rfl)];simp[h.t0,h.t4,h.t5,ra,ix,lda,h.yP,q1,aY];rw[bP (by kernel_rfl)];simp[h.t0,h.t4,h.t5,ra1,y1,r15,y2,ve.build,tN,p1,dJ]
end
end Go.Proofs.YtnmofhngblebiaaGreatDoor
namespace Go.Ev
variable {A F F' F2 Fi al:List Nat}{L:List dG}{N br e i j lo lo' n n0 n2 nb ni r r14 r7 rb ro rx ty z:Nat}{R:Nat×Nat×Ms}{a b l:aa}{bc cs new:List AV}{bn nm:ae}{c:Option Self}{d:dG}{fs fs0:List aK}{k num:Int}{m m0 m2 mi:Ms}{o:bC}{ps rv sv sv0 v:AV}{q:Nat->Bool}{s s' s0 st:St}{t:Tr AV}{x:Ex}
def aa.dr:aa->Nat->aa
 |l,0=>l
 |.nil f,_+1=>.nil f
 |.cons _ _ l,i+1=>l.dr i
theorem aa.mI(l:aa):l.dr 0=l:=by cases l<;>rfl
theorem aa.ye:∀{l:aa}{i:Nat}(h:i<l.list.length),l.dr i=.cons l.list[i].1 l.list[i].2 (l.dr (i+1))
 |.nil _,i,h=>by simp[aa.list]at h
 |.cons p x l,0,h=>by cases l<;>rfl
 |.cons p x l,i+1,h=>by have:=aa.ye (l:=l) (i:=i) (by simpa[aa.list]using h);simpa[aa.dr,aa.list]using this
theorem aa.De:∀(l:aa),∃f,l.dr l.list.length=.nil f
 |.nil f=>⟨f,rfl⟩
 |.cons p x l=>by have⟨f,h⟩:=aa.De l;exact⟨f,by simpa[aa.dr,aa.list]using h⟩
def oR:AV->List Nat
 |.sl r _ _ _ _=>[r]
 |_=>[]
def hZ(s:St)(lo z:Nat)(v:AV)(i:Nat)(cs:List AV)(F:List Nat):Prop:=∃g,bD s lo z v i cs g/\(i=0->v=.sn)/\∀y∈oR v++g.toList,y∉F
section
variable {R:List Nat}
theorem hZ.nil(s:St)(lo z:Nat)(F:List Nat):hZ s lo z .sn 0 [] F:=⟨No,.nil _ _ _,λ_=>rfl,by simp[oR]⟩
theorem hZ.keep{B:List Nat}(h:hZ s lo z v i cs F)(k:Kp A B s s')(hA:∀y∈A,y<lo\/s.next<=y\/y∈F)(hB:∀y∈B,y<lo\/s.next<=y\/y∈F):hZ s' lo z v i cs F:=by
 have⟨g,h1,h2,h3⟩:=h;refine⟨g,?_,h2,h3⟩;rcases h1 with h|h|⟨r,f,al,rfl,rfl,hc,hl,h0,q1,q2,q3,q4⟩
 ·exact .inl h
 ·exact .inr (.inl h)
 ·have nr:=h3 r (by simp[oR]);have nf:=h3 f (by simp[oR]);refine .inr (.inr ⟨r,f,al,rfl,rfl,k.ce hc q3 q4 (λhh=>?_) (λhh=>?_),hl,h0,q1,q2,Q0 q3 k.next,Q0 q4 k.next⟩)
  ·rcases hA _ hh with h|h|h
   ·omega
   ·omega
   ·exact nr h
  ·rcases hB _ hh with h|h|h
   ·omega
   ·omega
   ·exact nf h
theorem hZ.rows(h:hZ s lo z v i cs F):∃g:Option Nat,bD s lo z v i cs g/\(i=0->v=.sn)/\∀y∈oR v++g.toList,y∉F/\lo<=y/\y<s.next:=by
 have⟨g,h1,h2,h3⟩:=h;refine⟨g,h1,h2,λy hy=>⟨h3 y hy,?_⟩⟩;rcases h1 with ⟨rfl,-,-,rfl⟩|⟨r,rfl,h0,-⟩|⟨r,f,al,rfl,rfl,hc,hl,h0,q1,q2,q3,q4⟩
 ·simp[oR]at hy
 ·cases h2 h0
 ·simp[oR]at hy;rcases hy with rfl|rfl
  ·exact⟨q1,q3⟩
  ·exact⟨q2,q4⟩
theorem hZ.kv(h:hZ s lo z v i cs F)(k:Kv R F F' s s')(hR:∀y∈R,y<lo):hZ s' lo z v i cs F':=by
 have h':=h.keep k.1 (λy hy=>(J3.1 hy).elim (λh=>.inl (hR y h)) λh=>.inr (.inr h)) (λy hy=>(J3.1 hy).elim (λh=>.inl (hR y h)) λh=>.inr (.inr h));have⟨g,h1,h2,h3⟩:=h.rows;have⟨g',h1',h2',h3'⟩:=h';have eg:g'=g:=by
  rcases h1 with ⟨rfl,-,-,rfl⟩|⟨r,rfl,h0,-⟩|⟨r,f,al,rfl,rfl,hc,hl,h0,q1,q2,q3,q4⟩
  ·rcases h1' with ⟨-,-,-,rfl⟩|⟨r,hr,-⟩|⟨r,f,al,rfl,hr,-⟩
   ·rfl
   ·cases hr
   ·cases hr
  ·cases h2 h0
  ·have c':=k.ce hc q3 q4 (λhh=>(J3.1 hh).elim (λh=>by have:=hR _ h; omega) (h3 r (by simp [oR])).1) (λhh=>(J3.1 hh).elim (λh=>by have:=hR _ h; omega) (h3 f (by simp [oR])).1);rcases h1' with ⟨hr,-⟩|⟨r',hr,e0,-⟩|⟨r',f',al',rfl,hr,hc',-⟩
   ·cases hr
   ·omega
   ·cases hr;rw[c']at hc';cases hc';rfl
 subst eg;exact⟨g',h1',h2',λy hy=>k.out (h3 y hy).2.2 (h3 y hy).1⟩
theorem hZ.cells(h:hZ s lo z v i cs F):v.cells=So [v]:=h.choose_spec.1.cells
theorem hZ.sc(h:hZ s lo z v i cs F):bR v=true:=h.choose_spec.1.sc
theorem hZ.iW{P:Program}(T:gz P ty e z)(h:hZ s lo z v i cs F)(hs:bH new=Tt)(hl:new.length=z)(hn:i+1<=10000000)(hlo:lo<=s.next)(hF:∀y∈F,y<s.next):
  ∃v' s' G,fD P (s.aj new) [ty,ty] [v,.sl s.next 0 1 z (So 1)]=So (v',s')/\hZ s' lo z v' (i+1) (cs++new) F/\Kp [] G s s'/\(∀y∈G,lo<=y/\y∉F)/\∀r l,s.ce r=So (l,r,[r])->l.length≠i*z->r∉G:=by
 have⟨g,h1,h2,h3⟩:=h.rows;have h1':=h1;obtain⟨v',g',s',w1,w2,w3,w4,-,r,m,w6,w7⟩:=h1.Gy T hs hl hn hlo;refine⟨v',s',g.toList,w1,⟨g',w2,by simp,λy hy hh=>?_⟩,w3,λy hy=>?_,λr l hc hl hr=>?_⟩
 ·rw[w6]at hy;simp only[oR,Q2,Q3,Q1]at hy;rcases hy with rfl|hy
  ·have:=hF _ hh;omega
  ·rcases w4 with rfl|⟨x,rfl,hx⟩
   ·exact(h3 y (J4 _ hy)).1 hh
   ·have:y=x:=by simpa using hy
    have:=hF _ hh;omega
 ·have:=h3 y (J4 _ hy);exact⟨this.2.1,this.1⟩
 ·rcases h1' with ⟨-,-,-,rfl⟩|⟨r',hr',h0',-,rfl⟩|⟨r',f,al,rfl,-,hc',hl',-⟩
  ·cases hr
  ·cases hr
  ·have:r=f:=by simpa using hr
   subst this;have⟨a1,a2,a3⟩:=x8 hc;have⟨b1,b2,b3⟩:=x8 hc';rw[a2]at b2;cases b2;have:r'=r:=by rw[mem_iff]at b3;simpa using b3
   subst this;rw[a1]at b1;cases b1;exact hl hl'
end
end Go.Ev
namespace Go.Proofs.YtnmofhngblebiaaGreatDoor
variable {A F F' F2 Fi al:List Nat}{C:dT}{L:List dG}{N br e i j lo lo' n n0 n2 nb ni r r14 r7 rb ro rx ty z:Nat}{R:Nat×Nat×Ms}{a b l:aa}{bc cs new:List AV}{bn nm:ae}{c:Option Self}{d:dG}{fs fs0:List aK}{k num:Int}{m m0 m2 mi:Ms}{o:bC}{ps rv sv sv0 v:AV}{q:Nat->Bool}{s s' s0 st:St}{t:Tr AV}{x:Ex}
theorem Cx.mk'(h0:Cx C st m F br n sv fs)(k:Kv [C.mr,br] F Fi st s)(hm:dU C s mi Fi)(hb:kE s br ni sv):Cx C s mi Fi br ni sv fs :=
 ⟨hm,hb,h0.sc.kv k,h0.lt.1,Q0 h0.lt.2.1 k.next,k.out h0.lt.2.1 h0.lt.2.2⟩
theorem Cx.own{B:List Nat}(h0:Cx C st m F br n sv fs)(kv:Kv [C.mr,br] F Fi st s)(h:Cx C s mi Fi br ni sv fs)(k:Kp A B s s')(hA:∀y∈A,st.next<=y/\(s.next<=y\/∀l g al,s.ce y=So (l,g,al)->g∉Fi))(hB:∀y∈B,st.next<=y/\y∉Fi):
  Cx C s' mi Fi br ni sv fs/\Kv [C.mr,br] F Fi st s':=by
 have hl:=h0.mx.lt;have hb:=h0.lt;have kv':=kv.step k (λy hy=>.inr (hA y hy).1) (λy hy=>.inr (hB y hy).1);have⟨al,hbo⟩:=h.bo;refine⟨h0.mk' kv' (h.mx.DZ k (λy hy=>?_) λy hy=>.inr ⟨by have:=(hB y hy).1;omega,(hB y hy).2⟩) ⟨al,k.ce hbo h.lt.2.1 h.lt.2.1 (λhh=>by have:=(hA _ hh).1;omega) λhh=>by have:=(hB _ hh).1;omega⟩,kv'⟩;rcases(hA y hy).2 with h'|h'
 ·exact .inl h'
 ·exact .inr ⟨by have:=(hA y hy).1;omega,h'⟩
theorem QK{A B:List AV}{k:Nat}(h:dU C s m F)(hA:aA A=Tt)(hB:aA B=Tt)(ho:hZ s lo' z v k cs F)(hp:aA cs=Tt)(e:o.cells=A++eA z cs k::B)(hlo:C.lo<=lo')(hm:m.ops.length<=5000000)(hN:20<=N):
  ∃s' F' Y,(Tw c N).call 146 [.p C.mr 0,.ag (A++v::B)] s=So (iN m.ops.length,s')/\dU C s' ⟨m.ops++[o],m.bos⟩ F'/\Kv (C.mr::Y) F F' s s'/\∀y∈Y,lo'<=y:=by
 have⟨g,h1,h2,h3⟩:=ho.rows;have⟨s',F',p1,p2,p3⟩:=abu (c:=c) (N:=N) (o:=o) h hA hB h1 h2 hp e (λx hx=>by have:=h3 x (J4 _ hx);exact⟨by omega,this.1⟩) hm hN;exact⟨s',F',_,p1,p2,p3,λy hy=>(h3 y (J4 _ hy)).2.1⟩
set_option maxHeartbeats 8000000
structure kU(C:dT)(s0:St)(F:List Nat)(br:Nat)(sv:AV)(fs:List aK)(ro:Nat)(row:AV->List AV)(z:Nat)(s:St)(i:Nat)(v:AV)(cs:List AV)(mi:Ms)(ni:Nat)(Fi:List Nat):Prop where
 cx:Cx C s mi Fi br ni sv fs
 kv:Kv [C.mr,br] F Fi s0 s
 ceo:s.ce ro=So (row v,ro,[ro])
 lt:s0.next<=ro/\ro<s.next
 nf:ro∉Fi
 ow:hZ s (ro+1) z v i cs Fi
section
variable {row:AV->List AV}
theorem kU.call(h0:Cx C s0 m F br n sv fs)(h:kU C s0 F br sv fs ro row z s i v cs mi ni Fi)(hc:Cx C s' m2 F2 br n2 sv fs)(k:Kv [C.mr,br] Fi F2 s s'):kU C s0 F br sv fs ro row z s' i v cs m2 n2 F2:=by
 have hl:=h0.mx.lt;have hb:=h0.lt;have lt:=h.lt;have no:ro∉[C.mr,br]++Fi:=λhh=>by
  simp only[Q2,Q3,Q1]at hh;rcases hh with hh|hh|hh
  ·omega
  ·omega
  ·exact h.nf hh
 exact⟨hc,h.kv.call k (λy hy=>.inl hy),k.ce h.ceo lt.2 lt.2 no no,⟨lt.1,Q0 lt.2 k.next⟩,k.out lt.2 h.nf,h.ow.kv k (λy hy=>by grind)⟩
theorem kU.kp(h0:Cx C s0 m F br n sv fs)(h:kU C s0 F br sv fs ro row z s i v cs mi ni Fi)(k:Kp [] [] s s'):kU C s0 F br sv fs ro row z s' i v cs mi ni Fi :=
 h.call h0 (h.cx.new k) (Kv.of k)
theorem kU.grow{ix:Nat}(T:gz π ty e z)(h0:Cx C s0 m F br n sv fs)(h:kU C s0 F br sv fs ro row z s i v cs mi ni Fi)(hs:bH new=Tt)(hl:new.length=z)(hi:i+1<=10000000)(hr:∀a b,aW (row a) ix [b]=row b)(hx:ix+1<=(row v).length):
  ∃v' s2 s3,fD π (s.aj new) [ty,ty] [v,.sl s.next 0 1 z (So 1)]=So (v',s2)/\v'.cells=So [v']/\wt s2 ro ix [v']=So s3/\kU C s0 F br sv fs ro row z s3 (i+1) v' (cs++new) mi ni Fi/\∀r l,s.ce r=So (l,r,[r])->l.length≠i*z->r≠ro->r<s.next->s3.ce r=So (l,r,[r])/\r<s3.next:=by
 have lt:=h.lt;have⟨v',s2,G,w1,w2,w3,w4,w5⟩:=h.ow.iW T hs hl hi (by omega) (λy hy=>(h.cx.mx.gB y hy).2);have c2:=w3.ce h.ceo lt.2 lt.2 (by simp) (λhh=>by grind);have n2:=w3.next;have⟨a1,a2⟩:=h0.own h.kv h.cx w3 (by simp) (λy hy=>⟨by grind,(w4 y hy).2⟩);have hw:=c9 c2 ix [v'] hx (by simp[w2.sc]);rw[hr]at hw;have k3:Kp [ro] [ro] s2 (s2.aG ro (row v') ro):=.aG (by simp) (by simp);have c3:=dA ro (row v') ro (st:=s2);have al3:(s2.aG ro (row v') ro).ce ro=So (row v',ro,[ro]):=by grind
 have⟨b1,b2⟩:=h0.own a2 a1 k3 (λy hy=>by
  rw[Q7.1 hy];exact⟨lt.1,.inr λl g al hc=>by rw[c2]at hc;cases hc;exact h.nf⟩) (λy hy=>by
  rw[Q7.1 hy];exact⟨lt.1,h.nf⟩)
 refine⟨v',s2,_,w1,w2.cells,hw,⟨b1,b2,al3,⟨lt.1,Q0 lt.2 n2⟩,h.nf,w2.keep k3 (λy hy=>.inl (by grind)) (λy hy=>.inl (by grind))⟩,λr l hc hl hr hlt=>?_⟩;exact⟨k3.ce (w3.ce hc hlt hlt (by simp) (w5 r l hc hl)) (by omega) (by omega) (by grind) (by grind),Q0 hlt (Z7 n2 k3.next)⟩
theorem abf(aT:aa.Ty a 0)(hj:j<=a.len):∃w,gR π s 44 (a.slice 7) No (So (.i .i64 (j:Int))) No=So w/\(lenOf w=So j/\kO w=false)/\∀k (hk:k<a.list.length),k<j->∃r,indexAddr π 44 w (.i .i64 (k:Int))=So (.rp (a.list[k].2.cells++r)):=by
 have hm:=wm aT;have hl:((a.list.map (·.2)).map Ex.cells).length=a.len:=by rw[Q4,Q4,aa.aF]
 rcases hm.1 with ⟨h1,h2⟩|h1
 ·have:j=0:=by grind
  subst this;rw[h1];exact⟨.sn,by kernel_rfl,⟨rfl,rfl⟩,λk hk hh=>by omega⟩
 ·rw[h1,hl];refine⟨_,zf rX hj,⟨rfl,rfl⟩,λk hk hkj=>?_⟩;have hk':k<((a.list.map (·.2)).map Ex.cells).length:=by grind
  have⟨r,hr⟩:=DC hm.2 hk';rw[dP rX.und rX.inf rX.sz _ _ _ hkj,hr];simp
def Gk(C:dT)(s:St)(F:List Nat)(br:Nat)(R:Nat×Nat×Ms)(s1:St):Prop:=∃F' sv1,dU C s1 R.2.2 F'/\kE s1 br R.2.1 sv1/\Kv [C.mr,br] F F' s s1
def wA(nm:ae)(v:AV):List AV:=[.i .i64 7,.i .i64 0,.s nm,.sn,v,.sn,.sn,.i .i64 0]
def zL(c:Option Self)(C:dT)(s0:St)(F:List Nat)(br:Nat)(sv:AV)(fs:List aK)(ro:Nat)(nm:ae)(a:aa)(j n:Nat)(m:Ms)(s:St)(v:AV)(i:Nat):Prop:=∃L ni mi Fi,kU C s0 F br sv fs ro (wA nm) 1 s i v (L.flatMap mQ) mi ni Fi/\L.length=i/\
 eX (FF C.Gf) (ax C.Gf) (ax C.Kf) strF a j (aS fs) n m=(L++(eX (FF C.Gf) (ax C.Gf) (ax C.Kf) strF (a.dr i) (j-i) (aS fs) ni mi).1,(eX (FF C.Gf) (ax C.Gf) (ax C.Kf) strF (a.dr i) (j-i) (aS fs) ni mi).2)/\
 mi.ops.length+(a.dr i).size<=m.ops.length+a.size/\mi.bos.length+2*(a.dr i).size<=m.bos.length+2*a.size/\ni+80*(a.dr i).size<=n+80*a.size
def KY(c:Option Self)(C:dT)(s0:St)(F:List Nat)(br:Nat)(sv:AV)(fs:List aK)(ro:Nat)(nm:ae)(a:aa)(j n:Nat)(m:Ms)(s:St)(i:Nat):Prop:=∃v,zL c C s0 F br sv fs ro nm a j n m s v i
section
variable {r5:Nat}
theorem zL.step(h0:Cx C s0 m F br n sv fs)(hx:∀p∈a.list,eQ p.2)(hI:∀p∈a.list,jF c p.2)(h:zL c C s0 F br sv fs ro nm a j n m s v i)(hi:i<a.list.length)(hij:i<j)(k1:Kp [] [] s s')(b1:m.ops.length+a.size<=4000000)(b2:m.bos.length+2*a.size<=4000000)(b3:n+80*a.size<=500000000)(b4:fs.length+a.size<=3000000)(b5:10*a.size+20000000000000000000<=N):
  ∃op s1 v' s2 s3,(Tw c N).call 100 [.p C.mr 0,.ag a.list[i].2.cells,.p br 0] s'=So (iN op,s1)/\rd s' ro 4 1=So [v]/\rd s1 ro 4 1=So [v]/\fD π (s1.aj [iN op]) [50,50] [v,.sl s1.next 0 1 1 (So 1)]=So (v',s2)/\v'.cells=So [v']/\wt s2 ro 4 [v']=So s3/\zL c C s0 F br sv fs ro nm a j n m s3 v' (i+1):=by
 have⟨L,ni,mi,Fi,g1,g2,g3,g4,g5,g6⟩:=h;have hd:=aa.ye hi;rw[hd]at g3 g4 g5 g6;obtain⟨x,hxe⟩:∃x,a.list[i].2=x:=⟨_,rfl⟩;have hmem:=Q6 hi;have hok:=hx _ hmem;have hEx:=hI _ hmem;rw[hxe]at g3 g4 g5 g6 hok hEx|-;simp only[aa.size]at g4 g5 g6;have szx:x.size<=a.size:=by rw[<-hxe];exact aa.dX hmem
 have g1':=g1.kp h0 k1;have bd:Bd x mi ni fs.length N:=⟨by omega,by omega,by omega,by omega,by omega⟩;have⟨s1,F1,q1,q2,q3⟩:=hEx C s' mi Fi br ni sv fs N g1'.cx bd;have G:=g1'.call h0 q2 q3;have⟨⟨w1,w2,w3⟩,w4,w5⟩:=mU (F:=FF C.Gf) (G:=ax C.Gf) (K:=ax C.Kf) x hok.wd (aS fs) ni mi;have hsl:a.list.length<=a.size:=by rw[<-aa.aF];exact a.cq
 obtain⟨v',s2,s3,y1,y2,y3,y4,-⟩:=G.grow rf (ix:=4) (new:=[iN (cg C x fs ni mi).1]) h0 rfl rfl (by omega) (λ_ _=>rfl) (by simp[wA]);refine⟨_,s1,v',s2,s3,q1,by rw[ai g1'.ceo];rfl,by rw[ai G.ceo];rfl,y1,y2,y3,L++[(cg C x fs ni mi).1],(cg C x fs ni mi).2.1,(cg C x fs ni mi).2.2,F1,?_,by grind,?_,?_,?_,?_⟩
 ·simpa[mQ]using y4
 ·rw[g3,show j-i=(j-(i+1))+1 by omega,eX];simp
 ·show(cU (FF C.Gf) (ax C.Gf) (ax C.Kf) strF x (aS fs) ni mi).2.2.ops.length+_<=_
  omega
 ·show(cU (FF C.Gf) (ax C.Gf) (ax C.Kf) strF x (aS fs) ni mi).2.2.bos.length+_<=_
  omega
 ·show(cU (FF C.Gf) (ax C.Gf) (ax C.Kf) strF x (aS fs) ni mi).2.1+_<=_
  omega
theorem aaX(hx:eQ (.mk 9 nm num ps b a l))(hI:∀p∈a.list,jF c p.2)(hs:Ex.size (.mk 9 nm num ps b a l)<=1000000)(hb:Bd (.mk 9 nm num ps b a l) m n fs.length (N+1)):uw c C (.mk 9 nm num ps b a l) st m F br n sv fs N:=by
 intro h0 t s rx r5 r7 h hC;have hN:=hb.N;have hops:=hb.ops;have hbos:=hb.bos;have hn:=hb.n;have hd:=hb.d;have aT:aa.Ty a 0:=by have:=hx.ty;simp only[Ex.Ty]at this;exact this.2.2.2.1
 have alz:=aa.cq a;have ale:=aa.aF a;have hsz:a.size+1<=Ex.size (.mk 9 nm num ps b a l):=by simp only[Ex.size];omega
 have⟨hst,hja⟩:=hx.wd.1.2.2.1 rfl;obtain⟨j,hj⟩:∃j,(strF nm).toNat=j:=⟨_,rfl⟩;have hji:strF nm=(j:Int):=by omega
 rw[hj]at hja;have sc:=λst:St=>Ka (c:=c) (st:=st) nm (N:=N) (by omega)
 rw[hji]at sc;have ra:=h.ra;have⟨s1,u1,u2,u3,u4⟩:=bJ (s:=s) (z:=[.i .i64 0,.i .i64 0,.s [],.sn,.sn,.sn,.sn,.i .i64 0]) (cells:=wA nm .sn) rfl rfl;have sto:=aC oL o9 (s.aj [.i .i64 0,.i .i64 0,.s [],.sn,.sn,.sn,.sn,.i .i64 0]) s.next 0 (wA nm .sn) rfl;have⟨w,w1,w2,w3⟩:=abf (s:=s1) aT hja;have lw:=λst:St=>bg (P:=π) (st:=st) underlying44 w2.1 w2.2
 have⟨c1x,c15⟩:=h.uQ h0 (Kv.of u3);have rn1:rd s1 rx 1 1=So [.s nm]:=by rw[ai c1x];rfl
 have ra1:rd s1 rx 5 1=So [a.slice 7]:=by rw[ai c1x];rfl
 obtain⟨ro,hro⟩:∃r,s.next=r:=⟨_,rfl⟩;rw[hro]at u1 u2 sto u4;have hF:=hC.mx.gB;have hG0:zL c C s F br sv fs ro nm a j n m s1 .sn 0 :=
  ⟨[],n,m,F,⟨hC.new u3,Kv.of u3,u2,⟨by omega,u4⟩,λhh=>by have:=hF _ hh;omega,.nil _ _ _ _⟩,rfl,by rw[aa.mI];rfl,by rw[aa.mI];exact Q5 _,by rw[aa.mI];exact Q5 _,by rw[aa.mI];exact Q5 _⟩
 have ecl:wA nm .sn=[.i .i64 7,.i .i64 0,.s nm,.sn,.sn,.sn,.sn,.i .i64 0]:=rfl;rw[ecl]at u1 sto
 suffices hh:∃s1,qL (ao lX (nE c N) t s) (cg C (.mk 9 nm num ps b a l) fs n m).1 s1/\Gk C s F br (cg C (.mk 9 nm num ps b a l) fs n m) s1 by have⟨s1,h1,F',sv1,h2⟩:=hh;exact⟨s1,F',sv1,h1,h2⟩
 unfold qL;simp[lX,aw,f100,h.t4,h.rk,h.rn,ve.build,aB,zw,hro,sto,u1,rn1,sc,ra1,w1,lw,ba];generalize hL:aQ _ _ _ _=L;obtain⟨t1,s2,rfl,z0,z4,z5,z14,z15,zI⟩:=cD hL 3 j
  (λi t s'=>ab t 0=.p C.mr 0/\ab t 4=.p rx 0/\ab t 5=.p r5 0/\ab t 14=.p ro 0/\ab t 15=.i .i64 (j:Int)/\ab t 124=w/\ab t 125=.i .i64 (j:Int)/\ab t 126=.i .i64 (i:Int)/\KY c C s F br sv fs ro nm a j n m s' i)
  (λt s'=>ab t 0=.p C.mr 0/\ab t 4=.p rx 0/\ab t 5=.p r5 0/\ab t 14=.p ro 0/\ab t 15=.i .i64 (j:Int)/\KY c C s F br sv fs ro nm a j n m s' j) (by omega)
  ⟨by simp[h.t0],by simp[h.t4],by simp[h.t5],by simp,by simp,by simp,by simp,by simp,.sn,hG0⟩
  (by
   rintro i t s' hi ⟨i0,i4,i5,i14,i15,i124,i125,i126,v,iI⟩;have e3:(i:Int)<(j:Int):=by omega
   have e4:wr .i64 ((i:Int)+1)=((i+1:Nat):Int):=by rw[aP (by omega) (by omega)];rfl
   have hil:i<a.list.length:=by omega
   have⟨r,ix⟩:=w3 i hil hi;obtain⟨xi,hxi⟩:∃y,a.list[i].2.cells=y:=⟨_,rfl⟩;have hxl:xi.length=7:=by rw[<-hxi];exact Ex.bp _
   have ldx:=ei cM gT aX (st:=s') (r:=r) hxl;rw[hxi]at ix;have⟨s3,y1,y2,y3,y4⟩:=bJ (s:=s') (z:=vT) (cells:=xi) (by rw[hxl];rfl) (by rw[<-hxi];exact Ex.eU (aa.dC aT _ (Q6 hil)).2.wf);have sto3:=aC cM aX (s'.aj vT) s'.next 0 xi hxl;have ld3:loadAt π 47 s3 (.p s'.next 0)=So (.ag xi):=by rw[cu cM gT,aX,ai y2,eV,<-hxl,gY];rfl
   have kv3:Kv [C.mr,br] F iI.choose_spec.choose_spec.choose_spec.choose s s':=iI.choose_spec.choose_spec.choose_spec.choose_spec.1.kv;obtain⟨-,c35⟩:=h.uQ h0 (kv3.step y3 (by simp) (by simp));have r35:rd s3 r5 0 1=So [.p br 0]:=by rw[ai c35];rfl
   have⟨op,s4,v',s5,s6,p1,p2,p3,p4,p5,p6,p7⟩:=iI.step (N:=N) hC hx.arg hI hil hi y3 (by omega) (by omega) (by omega) (by omega) (by omega);rw[hxi]at p1;have sto6:=bN Yq ac7 s5 ro 4 v' p5;have bo:=λ(t:Tr AV) (h:ah t (.tmp 135)=iN op)=>ef (S:=Tw c N) (t:=t) (st:=s4) rf (x:=.tmp 135) (cs:=[iN op]) (by rw[h];rfl) rfl
   simp only[dJ]at p1 p4 bo;simp[i124,i125,i126,e3,ix,ldx,aB,FT,sto3,y1,aY];rw[ft (fl:=[(1,6)])]
   rotate_left
   ·kernel_rfl
   ·intro R hR;simp[i0,i5,i14,p2,ld3,r35,p1,bo,p4,sto6,p6]at hR;subst hR;simp only[Q8,Q9,J1];exact cZ rfl rfl rfl (s:=s4) (by simp[p3])
   simp[i0,i5,i14,i126,e4,p2,ld3,r35,p1,bo,p4,sto6,p6];exact⟨_,_,⟨rfl,rfl⟩,by simp[i0],by simp[i4],by simp[i5],by simp[i14],by simp[i15],by simp[i124],by simp[i125],by simp,v',p7⟩)
  (by rintro t s' ⟨i0,i4,i5,i14,i15,i124,i125,i126,iI⟩;simp[i125,i126];exact⟨_,_,⟨rfl,rfl⟩,by simp[i0],by simp[i4],by simp[i5],by simp[i14],by simp[i15],iI⟩)
 clear hL;have⟨v,L,ni,mi,Fi,g1,g2,g3,g4,g5,g6⟩:=zI;obtain⟨f,hf⟩:∃x,eX (FF C.Gf) (ax C.Gf) (ax C.Kf) strF (a.dr j) (j-j) (aS fs) ni mi=([],ni,mi):=⟨0,by rw[Nat.sub_self];cases a.dr j<;>rfl⟩;rw[hf]at g3;simp only[Z5]at g3;have eR:cg C (.mk 9 nm num ps b a l) fs n m=eh {k:=7,nm:=nm,ops:=L,rs:=(gQ (ax C.Gf) (aS fs) a).drop j} ni mi:=by unfold cg;rw[cU];simp[hj,g3]
 rw[eR];simp only[eh];have⟨wd,s3,y1,y2,y3⟩:=QV (c:=c) (N:=N) aT hja (by omega) g1.cx (by omega);have kv2:=g1.kv;have⟨c2x,c25⟩:=h.uQ h0 kv2;have ra2:rd s2 rx 5 1=So [a.slice 7]:=by rw[ai c2x];rfl
 have r25:rd s2 r5 0 1=So [.p br 0]:=by rw[ai c25];rfl
 generalize (gQ (ax C.Gf) (aS fs) a).drop j=rs at*;have g3':=g1.kp hC y3;have hw:=c9 g3'.ceo 3 [bz rs] (by simp[wA]) (by simp[bz,od]);have ew:aW (wA nm v) 3 [bz rs]=[.i .i64 7,.i .i64 0,.s nm,bz rs,v,.sn,.sn,.i .i64 0]:=rfl;rw[ew]at hw;have k4:Kp [ro] [ro] s3 (s3.aG ro [.i .i64 7,.i .i64 0,.s nm,bz rs,v,.sn,.sn,.i .i64 0] ro):=.aG (by simp) (by simp);have c4:=dA ro [.i .i64 7,.i .i64 0,.s nm,bz rs,v,.sn,.sn,.i .i64 0] ro (st:=s3);obtain⟨s4,hs4⟩:∃t,s3.aG ro [.i .i64 7,.i .i64 0,.s nm,bz rs,v,.sn,.sn,.i .i64 0] ro=t:=⟨_,rfl⟩;rw[hs4]at hw k4 c4;have lt3:=g3'.lt;have ce3:=g3'.ceo;have⟨b1,b2⟩:=hC.own g3'.kv g3'.cx k4 (λy hy=>by
  rw[Q7.1 hy];exact⟨lt3.1,.inr λl g al hc=>by rw[ce3]at hc;cases hc;exact g3'.nf⟩) (λy hy=>by
  rw[Q7.1 hy];exact⟨lt3.1,g3'.nf⟩)
 have ow4:=g3'.ow.keep k4 (λy hy=>.inl (by simp at hy;omega)) (λy hy=>.inl (by simp at hy;omega));have sto4:=bN wI xD s3 ro 3 (bz rs) (tN rs);have ld4:loadAt π 87 s4 (.p ro 0)=So (.ag [.i .i64 7,.i .i64 0,.s nm,bz rs,v,.sn,.sn,.i .i64 0]):=by rw[cu oL wh,o9,ai c4];rfl
 have⟨s5,F',Y,p1,p2,p3,p4⟩:=QK (c:=c) (N:=N) (o:={k:=7,nm:=nm,ops:=L,rs:=rs}) (A:=[.i .i64 7,.i .i64 0,.s nm,bz rs]) (B:=[.sn,.sn,.i .i64 0]) b1.mx (by simp[aA,aE,qd]) rfl ow4 (mj _ (λ_=>rfl) _) (by rw[<-g2];rfl) (by have:=hC.mx.lt;omega) (by omega) (by omega);have hbr:=hC.lt;have hmr:=hC.mx.lt;refine⟨s5,?_,F',sv,p2,b1.uL p3 (λhh=>?_),b2.call p3 (λy hy=>?_)⟩
 ·simp at p1;simp[aY];rw[bP (by kernel_rfl)];simp[z0,z4,z5,z14,z15,ra2,y1,r25,y2,sto4,hw,ld4,p1,dJ]
 ·rcases Q1.1 hh with hh|hh
  ·omega
  ·have:=p4 _ hh;omega
 ·rcases Q1.1 hy with hy|hy
  ·left;simp[hy]
  ·right;have:=p4 _ hy;omega
end
end
set_option maxHeartbeats 8000000
section
variable {s6:St}{sv2:AV}{fs2:List aK}
theorem gD.set{l:List AV}(h:dU C s m F)(hr:C.lo<=r)(hc:s.ce r=So (l,r,al))(hf:r∉F)(k:Kp [r] [r] s s'):dU C s' m F :=
 h.DZ k (λy hy=>by
  grind) (λy hy=>by
  grind)
theorem Mt{r5 r6 r8:Nat}{a0 a1 a2 a3:AV}{z6:List AV}(he:jF c x)(h0:Cx C st m F br n sv fs)(k6:Kp [br] [br] st s6)(C6:Cx C s6 m F br n2 sv2 fs2)(bd:Bd x m n2 fs2.length (N+1))(c5:s6.ce r5=So ([.p br 0],r5,[r5]))(c6:s6.ce r6=So (z6,r6,[r6]))(c7:s6.ce r7=So ([sv],r7,[r7]))(c8:s6.ce r8=So ([a0,a1,a2,a3,.i .i64 0],r8,[r8]))(hz:z6.length=5)(hs:bR a0=Tt/\bR a1=Tt/\bR a2=Tt/\bR a3=Tt)
  (l5:st.next<=r5/\r5<s6.next) (l6:st.next<=r6/\r6<s6.next) (l7:st.next<=r7/\r7<s6.next) (l8:st.next<=r8/\r8<s6.next) (h68:r5<r6/\r6<r7/\r7<r8) (hR:cg C x fs2 n2 m=R):
  ∃s7 s8 s9 s10 F',(Tw c (N+1)).call 100 [.p C.mr 0,.ag x.cells,.p br 0] s6=So (iN R.1,s7)/\wt s7 r8 4 [iN R.1]=So s8/\rd s8 r8 0 5=So [a0,a1,a2,a3,iN R.1]/\wt s8 r6 0 [a0,a1,a2,a3,iN R.1]=So s9/\pR π (Tw c (N+1)) 202 [.p r7 0,.p r5 0] s9=So (.tu [],s10)/\rd s10 r6 0 5=So [a0,a1,a2,a3,iN R.1]/\Cx C s10 R.2.2 F' br R.2.1 sv fs/\Kv [C.mr,br] F F' st s10:=by
 subst hR;have⟨s7,F',q1,q2,q3⟩:=he C s6 m F br n2 sv2 fs2 (N+1) C6 bd;have hF:=h0.mx.gB;have hbr:=h0.lt;have hmr:=h0.mx.lt;have out:∀y,st.next<=y->y∉[C.mr,br]++F:=λy hy hh=>by
  simp only[Q2,Q3,Q1]at hh;rcases hh with hh|hh|hh
  ·omega
  ·omega
  ·have:=hF _ hh;omega
 have outF:∀y,st.next<=y->y<s6.next->y∉F':=λy hy h2=>q3.out h2 λhh=>by have:=hF _ hh;omega
 have d5:=q3.ce c5 l5.2 l5.2 (out _ l5.1) (out _ l5.1);have d6:=q3.ce c6 l6.2 l6.2 (out _ l6.1) (out _ l6.1);have d7:=q3.ce c7 l7.2 l7.2 (out _ l7.1) (out _ l7.1);have d8:=q3.ce c8 l8.2 l8.2 (out _ l8.1) (out _ l8.1);have n7:=q3.next;have⟨e0,e1,e2,e3⟩:=hs;have w8:=c9 d8 4 [iN (cg C x fs2 n2 m).1] (by simp) (by simp[iN]);have o8:aW [a0,a1,a2,a3,.i .i64 0] 4 [iN (cg C x fs2 n2 m).1]=[a0,a1,a2,a3,iN (cg C x fs2 n2 m).1]:=rfl;rw[o8]at w8;have k8:Kp [r8] [r8] s7 (s7.aG r8 [a0,a1,a2,a3,iN (cg C x fs2 n2 m).1] r8):=.aG (by simp) (by simp);have f8:=dA r8 [a0,a1,a2,a3,iN (cg C x fs2 n2 m).1] r8 (st:=s7);obtain⟨s8,hs8⟩:∃t,s7.aG r8 [a0,a1,a2,a3,iN (cg C x fs2 n2 m).1] r8=t:=⟨_,rfl⟩;rw[hs8]at w8 k8 f8;have m8:=q2.mx.set (by omega) d8 (outF _ l8.1 l8.2) k8;have n8:=k8.next;have g6:=k8.ce d6 (by omega) (by omega) (by simp;omega) (by simp;omega);have w9:=c9 g6 0 [a0,a1,a2,a3,iN (cg C x fs2 n2 m).1] (by simp[hz]) (by simp[iN,e0,e1,e2,e3]);rw[pY,nU (by rw[hz];rfl)]at w9;have k9:Kp [r6] [r6] s8 (s8.aG r6 [a0,a1,a2,a3,iN (cg C x fs2 n2 m).1] r6):=.aG (by simp) (by simp);have f9:=dA r6 [a0,a1,a2,a3,iN (cg C x fs2 n2 m).1] r6 (st:=s8);obtain⟨s9,hs9⟩:∃t,s8.aG r6 [a0,a1,a2,a3,iN (cg C x fs2 n2 m).1] r6=t:=⟨_,rfl⟩;rw[hs9]at w9 k9 f9;have m9:=m8.set (by omega) g6 (outF _ l6.1 l6.2) k9;have n9:=k9.next;have⟨al,hbo⟩:=q2.bo;have b8:=k8.ce hbo (by omega) (by omega) (by simp;omega) (by simp;omega);have b9:=k9.ce b8 (by omega) (by omega) (by simp;omega) (by simp;omega);have d59:=k9.ce (k8.ce d5 (by omega) (by omega) (by simp;omega) (by simp;omega)) (by omega) (by omega) (by simp;omega) (by simp;omega);have d79:=k9.ce (k8.ce d7 (by omega) (by omega) (by simp;omega) (by simp;omega)) (by omega) (by omega) (by simp;omega) (by simp;omega);have⟨s10,p1,p2,p3⟩:=Rc (c:=c) (N:=N) (f:=202) (.inr rfl) (r7:=r7) (r5:=r5) (by rw[ai d79];rfl) (by rw[ai d59];rfl) ⟨al,b9⟩ h0.sc.cells;have c10:=p3.ce f9 (by omega) (by omega) (by simp;omega) (by simp;omega);have m10:=m9.set hbr.1 b9 (q3.out (by have:=k6.next;omega) hbr.2.2) p3;have kv:Kv [C.mr,br] F F' st s10:=by have a1:Kv [C.mr,br] F F' st s7:=((Kv.refl [C.mr,br] F st).step k6 (by simp) (by simp)).call q3 (λy hy=>.inl hy);exact((a1.step k8 (λy hy=>.inr (by simp at hy;omega)) (λy hy=>.inr (by simp at hy;omega))).step k9 (λy hy=>.inr (by simp at hy;omega)) (λy hy=>.inr (by simp at hy;omega))).step p3 (by simp) (by simp)
 exact⟨s7,s8,s9,s10,F',q1,w8,by rw[ai f8];rfl,w9,p1,by rw[ai c10];rfl,h0.mk' kv m10 p2,kv⟩
def qo:List AV:=[.i .i64 0,.i .i64 0,.i .i64 0,.sn,.i .i64 0]
theorem Hc{ac:List AV}{g:Nat}(h:s.ce r=So (ac,g,al)):rd s r i 1=cut ac i 1:=ai h
noncomputable def nI:Code:=f149.body.getD .skip
noncomputable abbrev yd(c : Option Self)(N : Nat) : Ctx := ⟨π,Tw c N,false,f149.ntmps,N⟩
theorem Vx{p:List AV}(hp:jw 4 p)(_:eQ x)(he:jF c x)(hv:(aM (p,x)).vs.length<=32)(h:Cx C st m F br n sv fs)(b1:m.ops.length+x.size<=4000000)(b2:m.bos.length+2*x.size<=4000000)(b3:n+32+80*x.size<=500000000)(b4:fs.length+1+x.size<=3000000)(b5:10*x.size+20000000000000000003<=N)
  (hR:cU (FF C.Gf) (ax C.Gf) (ax C.Kf) strF x (aZ (aS fs) (aM (p,x)).vs n) (n+(aM (p,x)).vs.length) m=R):
  ∃s' F',(Tw c N).call 149 [.p C.mr 0,.ag (p++x.cells),.p br 0] st=So (.ag (cT.cells ⟨(aM (p,x)).k,if (aM (p,x)).k=1 then ax C.Kf (aM (p,x)).n else 0,(aM (p,x)).m,List.range' n (aM (p,x)).vs.length,R.1⟩),s')/\Cx C s' R.2.2 F' br R.2.1 sv fs/\Kv [C.mr,br] F F' st s':=by
 obtain⟨N,rfl⟩:∃N',N=N'+2:=⟨N-2,by omega⟩;obtain⟨vs,hpe,hvs,-⟩:=Bp (p:=(p,x)) hp;generalize aM (p,x)=H at*;have⟨k,nm,num,vl⟩:=H;simp only at hpe hvs hv hR|-;subst hpe;obtain⟨ac,hac⟩:∃l,[.i .i64 k,.s nm,.i .i64 num,vs]++x.cells=l:=⟨_,rfl⟩;have acl:ac.length=11:=by rw[<-hac];simp[x.bp]
 have cut0:cut ac 0 1=So [.i .i64 k]:=by rw[<-hac];rfl
 have cut1:cut ac 1 1=So [.s nm]:=by rw[<-hac];rfl
 have cut2:cut ac 2 1=So [.i .i64 num]:=by rw[<-hac];rfl
 have cut3:cut ac 3 1=So [vs]:=by rw[<-hac];rfl
 have cut4:cut ac 4 7=So x.cells:=by
  rw[<-hac];show cut x.cells 0 7=_
  rw[eV,<-x.bp,gY]
 rw[hac];have hF:=h.mx.gB;have hbr:=h.lt;have hmr:=h.mx.lt;have hsv:=h.sc.cells;obtain⟨rx,hrx⟩:∃r,st.next=r:=⟨_,rfl⟩;have kx:=Kp.aj (st:=st) [] [] ac;have cx:=bq (st:=st) ac;have nx:(st.aj ac).next=st.next+1:=rfl;obtain⟨sx,hsx⟩:∃t,st.aj ac=t:=⟨_,rfl⟩;rw[hsx]at kx cx nx;rw[hrx]at cx nx;have k5:=Kp.aj (st:=sx) [] [] [.p br 0];have c5:=bq (st:=sx) [.p br 0];have n5:(sx.aj [.p br 0]).next=rx+2:=by show sx.next+1=_;omega
 obtain⟨s5,hs5⟩:∃t,sx.aj [.p br 0]=t:=⟨_,rfl⟩;rw[hs5]at k5 c5 n5;have k6:=Kp.aj (st:=s5) [] [] qo;have c6:=bq (st:=s5) qo;have n6:(s5.aj qo).next=rx+3:=by show s5.next+1=_;omega
 obtain⟨s6,hs6⟩:∃t,s5.aj qo=t:=⟨_,rfl⟩;rw[hs6]at k6 c6 n6;have K6:=(kx.trans k5).trans k6;have h6:=h.new K6;have⟨al,hb6⟩:=h6.bo;have⟨s7,u1,u2,u3,u4⟩:=bJ (s:=s6) (z:=[.pn]) (cells:=[sv]) rfl (by simp[hsv.2]);have sto7:=bN DO FD (s6.aj [.pn]) s6.next 0 sv hsv.1;rw[nx]at c5;rw[n5]at c6;rw[n6]at u1 u2 sto7 u4;have r5:rd s6 (rx+1) 0 1=So [.p br 0]:=by rw[ai (k6.ce c5 (by omega) (by omega) (by simp) (by simp))];rfl
 have rb6:rd s6 br 1 1=So [sv]:=by rw[ai hb6];rfl
 have K7:=K6.trans u3;have cx7:=u3.ce (k6.ce (k5.ce cx (by omega) (by omega) (by simp) (by simp)) (by omega) (by omega) (by simp) (by simp)) (by omega) (by omega) (by simp) (by simp);have c57:=u3.ce (k6.ce c5 (by omega) (by omega) (by simp) (by simp)) (by omega) (by omega) (by simp) (by simp);have c67:=u3.ce c6 (by omega) (by omega) (by simp) (by simp);have h7:=h.new K7;have⟨al7,hb7⟩:=id h7.bo;have⟨s8,rs,rm,w1,w2,w3,w4,w5,w6,w7⟩:=IC (c:=c) (st:=s7) (v:=vs) (br:=br) (n:=n) (sv:=sv) hvs (by omega) (by omega) ⟨al7,hb7⟩ (by omega) hsv (N:=N+1) (by omega);have n8:=w5.next;have cx8:=w5.ce cx7 (by omega) (by omega) (by simp;omega) (by simp;omega);have c58:=w5.ce c57 (by omega) (by omega) (by simp;omega) (by simp;omega);have c68:=w5.ce c67 (by omega) (by omega) (by simp;omega) (by simp;omega);have c78:=w5.ce u2 (by omega) (by omega) (by simp;omega) (by simp;omega);obtain⟨iv,hiv⟩:∃v,fu (List.range' n vl.length)=v:=⟨_,rfl⟩;have ivc:iv.cells=So [iv]:=by rw[<-hiv];exact Yw _
 have ivs:bR iv=true:=by rw[<-hiv];exact od _ _ _
 rw[hiv]at w1;have⟨s9,y1,y2,y3,y4⟩:=bJ (s:=s8) (z:=qo) (cells:=[.i .i64 k,.i .i64 0,.i .i64 num,iv,.i .i64 0]) rfl (by simp[ivs]);have sto9:=aC ma mw (s8.aj qo) s8.next 0 [.i .i64 k,.i .i64 0,.i .i64 num,iv,.i .i64 0] rfl;obtain⟨r8,hr8⟩:∃r,s8.next=r:=⟨_,rfl⟩;rw[hr8]at y1 y2 sto9 y4;have cx9:=y3.ce cx8 (by omega) (by omega) (by simp) (by simp);have c59:=y3.ce c58 (by omega) (by omega) (by simp) (by simp);have c69:=y3.ce c68 (by omega) (by omega) (by simp) (by simp);have c79:=y3.ce c78 (by omega) (by omega) (by simp) (by simp);have K9:Kp [br] [br] st s9:=((K7.sub (by simp) (by simp)).trans w5).trans (y3.sub (by simp) (by simp));have hX:∀y∈[C.mr,br]++F,y<s7.next:=λy hy=>by
  simp only[Q2,Q3,Q1]at hy;rcases hy with rfl|rfl|hy
  ·omega
  ·omega
  ·have:=hF y hy;omega
 have S8:=Fl (s0:=s7) (h7.sc.keep w5 (by simp) (by simp)) hX w3 w6 w7 w4;have⟨al8,w2⟩:=w2;have M9:=(h7.mx.set hbr.1 hb7 hbr.2.2 w5).new y3;have C9:Cx C s9 m F br (n+vl.length) (.p rs 0) (aZ (λ_=>No) vl n::fs):=⟨M9,⟨al8,y3.ce w2 (by omega) (by omega) (by simp) (by simp)⟩,S8.keep y3 (by simp) (by simp),hbr.1,by omega,hbr.2.2⟩;have hR':cg C x (aZ (λ_=>No) vl n::fs) (n+vl.length) m=R:=by rw[<-hR,cg,<-Gm]
 have bd:Bd x m (n+vl.length) (aZ (λ_=>No) vl n::fs).length (N+1):=⟨b1,b2,by omega,by simp;omega,by omega⟩;rw[Mc rfl func149 rfl (J8 rfl) rfl];have e1:∃t,ao (au nI) (yd c (N+1)) (tmpsOf [.p C.mr 0,.ag ac,.p br 0] 0 .lf) st=.nx t s6/\ab t 0=.p C.mr 0/\ab t 4=.p rx 0/\ab t 5=.p (rx+1) 0/\ab t 6=.p (rx+2) 0:=by simp[nI,au,f149,hsx,hs5,aB,lR,hrx,nx,n5];simp[qo]at hs6;simp[hs6]
 have⟨t1,e1,a0,a4,a5,a6⟩:=e1;have e2:∃t,ao (au (aw nI)) (yd c (N+1)) t1 s6=.nx t s7/\ab t 0=.p C.mr 0/\ab t 4=.p rx 0/\ab t 5=.p (rx+1) 0/\ab t 6=.p (rx+2) 0/\ab t 7=.p (rx+3) 0:=by simp[nI,au,aw,f149,a0,a4,a5,a6,r5,rb6,aB,S4,n6,sto7,u1]
 have⟨t2,e2,b0,b4',b5',b6,b7⟩:=e2;have e3:∃t,(∃ops hs d f,oE (au (aw (aw nI)))=So (ops,hs,d,f)/\d.dst=No/\bw π (Tw c (N+1)) f149.ntmps ops hs t2 s7=.nx t s7/\ah t f=.f (.func 202) [] [.p (rx+3) 0,.p (rx+1) 0])/\ab t 0=.p C.mr 0/\ab t 4=.p rx 0/\ab t 5=.p (rx+1) 0/\ab t 6=.p (rx+2) 0:=by
  refine⟨t2.set 13 (So (.f (.func 202) [] [.p (rx+3) 0,.p (rx+1) 0])),⟨_,_,_,_,rfl,rfl,?_,?_⟩,by simp[b0],by simp[b4'],by simp[b5'],by simp[b6]⟩
  ·simp[b5',b7]
  ·simp
 have⟨t3,⟨ops,hs,d,f,g1,g2,g3,g4⟩,d0,d4,d5,d6⟩:=e3;show ∃s' F',fN _ _ (kM (yd c (N+1)) 4 (.seq (au nI) (.seq (au (aw nI)) (.seq (au (aw (aw nI))) (aw (aw (aw nI)))))) _ _)=_/\_
 rw[Do (n:=3) rfl,e1,dN,Do (n:=2) rfl,e2,dN,Nh (n:=1) g1 g2 g3,g4];have rx0:=λi=>Hc (i:=i) cx9
 have rx8:=λi=>Hc (i:=i) cx8
 have rx7:=λi=>Hc (i:=i) cx7
 have r57:rd s7 (rx+1) 0 1=So [.p br 0]:=by rw[ai c57];rfl
 have r59:rd s9 (rx+1) 0 1=So [.p br 0]:=by rw[ai c59];rfl
 have ldx:∀s:St,s.ce rx=So (ac,rx,[rx])->loadAt π 47 s (.p rx 4)=So (.ag x.cells):=λs hs=>by rw[cu cM gT,aX,ai hs,cut4];rfl
 have fin:∀{s s2:St}{t:Tr AV}{v:AV},loadAt π 149 s2 (.p (rx+2) 0)=So v->ab t 6=.p (rx+2) 0->pR π (Tw c (N+1)) 202 [.p (rx+3) 0,.p (rx+1) 0] s=So (.tu [],s2)->fN π f149.results.toList (pT (yd c (N+1)) (.f (.func 202) [] [.p (rx+3) 0,.p (rx+1) 0]) (.rt t s))=So (v,s2):=λ{s s2 t v} h1 h2 h3=>by
  show fN π f149.results.toList (wD t (pR π (Tw c (N+1)) 202 ([]++[.p (rx+3) 0,.p (rx+1) 0]) s))=_
  rw[Q3,h3];simp[f149,wD,bf,aO,h2,h1]
 have rk9:=rx0 0;have rn9:=rx0 1;rw[cut0]at rk9;rw[cut1]at rn9;by_cases hk:k=1
 ·subst hk;have⟨d0',d1',d2',d3',d4',hA⟩:=C9.ic.at';have r69:rd s9 C.mr 6 1=So [.m C.kr]:=by rw[hA.rd];rfl
  have lk:=C9.ic.hK.get nR nm;rw[vA]at lk;have ed:(C.Kf nm).getD 0=ax C.Kf nm:=rfl;rw[ed]at lk;obtain⟨kn,hkn⟩:∃kn,ax C.Kf nm=kn:=⟨_,rfl⟩;rw[hkn]at lk;have w10:=c9 y2 1 [iN kn] (by simp) (by simp[iN]);have o10:aW [.i .i64 1,.i .i64 0,.i .i64 num,iv,.i .i64 0] 1 [iN kn]=[.i .i64 1,iN kn,.i .i64 num,iv,.i .i64 0]:=rfl;rw[o10]at w10;have k10:Kp [r8] [r8] s9 (s9.aG r8 [.i .i64 1,iN kn,.i .i64 num,iv,.i .i64 0] r8):=.aG (by simp) (by simp);have c10:=dA r8 [.i .i64 1,iN kn,.i .i64 num,iv,.i .i64 0] r8 (st:=s9);obtain⟨s10,hs10⟩:∃t,s9.aG r8 [.i .i64 1,iN kn,.i .i64 num,iv,.i .i64 0] r8=t:=⟨_,rfl⟩;rw[hs10]at w10 k10 c10;have n10:=k10.next;have K10:Kp [br] [br] st s10:=ey K9 k10 (by simp;omega) (by simp;omega);have nF8:r8∉F:=λhh=>by have:=hF _ hh;omega
  have cx10:=k10.ce cx9 (by omega) (by omega) (by simp;omega) (by simp;omega);have c510:=k10.ce c59 (by omega) (by omega) (by simp;omega) (by simp;omega);have c610:=k10.ce c69 (by omega) (by omega) (by simp;omega) (by simp;omega);have c710:=k10.ce c79 (by omega) (by omega) (by simp;omega) (by simp;omega);have S10:=(JM (Y:=[r8]) (by simp;omega) S8).keep y3 (by simp) (by simp);have⟨al9,hb9⟩:=C9.bo;have C10:Cx C s10 m F br (n+vl.length) (.p rs 0) (aZ (λ_=>No) vl n::fs):=⟨C9.mx.set (by omega) y2 nF8 k10,⟨al9,k10.ce hb9 (by omega) (by omega) (by simp;omega) (by simp;omega)⟩,(S10.keep k10 (by simp) (by simp)).sub (λy hy=>Z8 _ hy),hbr.1,by omega,hbr.2.2⟩;have⟨s11,s12,s13,s14,F',p1,p2,p3,p4,p5,p6,p7,p8⟩:=Mt (c:=c) (N:=N) (z6:=qo) (a0:=.i .i64 1) (a1:=iN kn) (a2:=.i .i64 num) (a3:=iv) he h K10 C10 bd c510 c610 c710 c10 rfl ⟨rfl,rfl,rfl,ivs⟩ ⟨by omega,by omega⟩ ⟨by omega,by omega⟩ ⟨by omega,by omega⟩ ⟨by omega,by omega⟩ ⟨by omega,by omega,by omega⟩ hR';refine⟨s14,F',?_,p7,p8⟩;have r510:rd s10 (rx+1) 0 1=So [.p br 0]:=by rw[ai c510];rfl
  have run:∃t,ao (aw (aw (aw nI))) (yd c (N+1)) t3 s7=.rt t s13/\ab t 6=.p (rx+2) 0:=by
   have st10:=bN dW eY s9 r8 1 (iN kn) rfl;have st12:=bN dW eY s11 r8 4 (iN R.1) rfl;have st13:=aC ma mw s12 (rx+2) 0 [.i .i64 1,iN kn,.i .i64 num,iv,iN R.1] rfl;have ld12:loadAt π 149 s12 (.p r8 0)=So (.ag [.i .i64 1,iN kn,.i .i64 num,iv,iN R.1]):=by rw[cu ma qN,mw,p3];rfl
   have lx10:=ldx s10 cx10;simp only[dJ]at p1 p2 p4 st12 st13 ld12 lk w10 st10;simp only[qo]at sto9 y1;simp[nI,aw,f149,aY];rw[ft (fl:=[(1,8),(3,8)])]
   rotate_left
   ·kernel_rfl
   ·intro RR hRR;simp[d4,d5,rx7,cut0,cut2,cut3,r57,w1,Dz.build,ivc,aB,lR,hr8,sto9,y1]at hRR;subst hRR;simp only[Q8,Q9,J1,J9];exact⟨cZ rfl rfl rfl (s:=s8) (by simp[rx8,cut0]),cZ rfl rfl rfl (s:=s8) (by simp[rx8,cut2])⟩
   simp[d4,d5,rx7,cut0,cut2,cut3,r57,w1,Dz.build,ivc,aB,lR,hr8,sto9,y1,rk9,aY];rw[bP (by kernel_rfl)];simp[d0,d4,d5,d6,r69,rn9,lk,st10,w10,lx10,r510,p1,st12,p2,ld12,st13,p4]
  have⟨t4,run,k6⟩:=run;rw[run];have ld14:loadAt π 149 s14 (.p (rx+2) 0)=So (.ag [.i .i64 1,iN kn,.i .i64 num,iv,iN R.1]):=by rw[cu ma qN,mw,p6];rfl
  rw[fin ld14 k6 p5];simp[cT.cells,hiv,hkn,dJ]
 ·have⟨s11,s12,s13,s14,F',p1,p2,p3,p4,p5,p6,p7,p8⟩:=Mt (c:=c) (N:=N) (z6:=qo) (a0:=.i .i64 k) (a1:=.i .i64 0) (a2:=.i .i64 num) (a3:=iv) he h K9 C9 bd c59 c69 c79 y2 rfl ⟨rfl,rfl,rfl,ivs⟩ ⟨by omega,by omega⟩ ⟨by omega,by omega⟩ ⟨by omega,by omega⟩ ⟨by omega,by omega⟩ ⟨by omega,by omega,by omega⟩ hR';refine⟨s14,F',?_,p7,p8⟩;have run:∃t,ao (aw (aw (aw nI))) (yd c (N+1)) t3 s7=.rt t s13/\ab t 6=.p (rx+2) 0:=by
   have st12:=bN dW eY s11 r8 4 (iN R.1) rfl;have st13:=aC ma mw s12 (rx+2) 0 [.i .i64 k,.i .i64 0,.i .i64 num,iv,iN R.1] rfl;have ld12:loadAt π 149 s12 (.p r8 0)=So (.ag [.i .i64 k,.i .i64 0,.i .i64 num,iv,iN R.1]):=by rw[cu ma qN,mw,p3];rfl
   have lx9:=ldx s9 cx9;simp only[dJ]at p1 p2 p4 st12 st13 ld12;simp only[qo]at sto9 y1;simp[nI,aw,f149,aY];rw[ft (fl:=[(1,8),(3,8)])]
   rotate_left
   ·kernel_rfl
   ·intro RR hRR;simp[d4,d5,rx7,cut0,cut2,cut3,r57,w1,Dz.build,ivc,aB,lR,hr8,sto9,y1]at hRR;subst hRR;simp only[Q8,Q9,J1,J9];exact⟨cZ rfl rfl rfl (s:=s8) (by simp[rx8,cut0]),cZ rfl rfl rfl (s:=s8) (by simp[rx8,cut2])⟩
   simp[d0,d4,d5,d6,rx7,cut0,cut2,cut3,r57,w1,Dz.build,ivc,aB,lR,hr8,sto9,y1,rk9,hk,lx9,r59,p1,st12,p2,ld12,st13,p4]
  have⟨t4,run,k6⟩:=run;rw[run];have ld14:loadAt π 149 s14 (.p (rx+2) 0)=So (.ag [.i .i64 k,.i .i64 0,.i .i64 num,iv,iN R.1]):=by rw[cu ma qN,mw,p6];rfl
  rw[fin ld14 k6 p5];simp[cT.cells,hk,hiv,dJ]
end
set_option maxHeartbeats 8000000
section
variable {r5:Nat}
theorem I1{w:Nat}(h:l.Ty w)(hz:fH w+7=z):gA (l.slice z) z (l.list.map λp=>p.1++p.2.cells):=by
 refine⟨?_,λx hx=>?_⟩
 ·cases l with
  |nil f=>
   cases f with
   |false=>right;simp[aa.slice,aa.list]
   |true=>left;simp[aa.slice,aa.list]
  |cons p x l=>
   right;have hf:=aa.As (.cons p x l);have hl:=aa.aF (.cons p x l);show AV.rs (aa.flat (.cons p x l)) (aa.len (.cons p x l)) z=_
   rw[hf,hl,Q4]
 ·obtain⟨y,hy,rfl⟩:=J6.1 hx;rw[J5,y.2.bp,(aa.dC h y hy).1.len,hz]
def Ac(op:Nat)(v:AV):List AV:=[.i .i64 6,.i .i64 0,.s [],.sn,.sn,.sn,v,iN op]
def zA(C:dT)(s0:St)(F:List Nat)(br:Nat)(sv:AV)(fs:List aK)(ro op:Nat)(l:aa)(n:Nat)(m:Ms)(s:St)(v:AV)(i:Nat):Prop:=∃L ni mi Fi,kU C s0 F br sv fs ro (Ac op) 5 s i v (L.flatMap cT.cells) mi ni Fi/\L.length=i/\
 fx (FF C.Gf) (ax C.Gf) (ax C.Kf) strF l (aS fs) n m=(L++(fx (FF C.Gf) (ax C.Gf) (ax C.Kf) strF (l.dr i) (aS fs) ni mi).1,(fx (FF C.Gf) (ax C.Gf) (ax C.Kf) strF (l.dr i) (aS fs) ni mi).2)/\
 mi.ops.length+(l.dr i).size<=m.ops.length+l.size/\mi.bos.length+2*(l.dr i).size<=m.bos.length+2*l.size/\ni+80*(l.dr i).size<=n+80*l.size
def KN(C:dT)(s0:St)(F:List Nat)(br:Nat)(sv:AV)(fs:List aK)(ro op:Nat)(l:aa)(n:Nat)(m:Ms)(s:St)(i:Nat):Prop:=∃v,zA C s0 F br sv fs ro op l n m s v i
theorem zA.step{op:Nat}(h0:Cx C s0 m F br n sv fs)(hT:l.Ty 4)(hx:∀p∈l.list,eQ p.2/\(aM p).vs.length<=32)(hI:∀p∈l.list,jF c p.2)(h:zA C s0 F br sv fs ro op l n m s v i)(hi:i<l.list.length)(k1:Kp [] [] s s')(_:l.size<=1000000)(b1:m.ops.length+l.size<=4000000)(b2:m.bos.length+2*l.size<=4000000)(b3:n+32+80*l.size<=500000000)(b4:fs.length+1+l.size<=3000000)(b5:10*l.size+20000000000000000003<=N):
  ∃d s1 v' s2 s3,(Tw c N).call 149 [.p C.mr 0,.ag (l.list[i].1++l.list[i].2.cells),.p br 0] s'=So (.ag (cT.cells d),s1)/\rd s' ro 6 1=So [v]/\rd s1 ro 6 1=So [v]/\fD π (s1.aj (cT.cells d)) [85,85] [v,.sl s1.next 0 1 5 (So 1)]=So (v',s2)/\v'.cells=So [v']/\wt s2 ro 6 [v']=So s3/\zA C s0 F br sv fs ro op l n m s3 v' (i+1):=by
 have⟨L,ni,mi,Fi,g1,g2,g3,g4,g5,g6⟩:=h;have hd:=aa.ye hi;rw[hd]at g3 g4 g5 g6;have hmem:=Q6 hi;have hpre:=(aa.dC hT _ hmem).1;have hok:=hx _ hmem;have hEx:=hI _ hmem;have szx:l.list[i].2.size<=l.size:=aa.dX hmem;obtain⟨p,hp⟩:∃p,l.list[i]=p:=⟨_,rfl⟩;rw[hp]at g3 g4 g5 g6 hok hEx hpre szx|-;have⟨p,x⟩:=p;simp only at hok hEx hpre g3 g4 g5 g6 szx|-;simp only[aa.size]at g4 g5 g6;have g1':=g1.kp h0 k1;obtain⟨R,hR⟩:∃R,cU (FF C.Gf) (ax C.Gf) (ax C.Kf) strF x (aZ (aS fs) (aM (p,x)).vs ni) (ni+(aM (p,x)).vs.length) mi=R:=⟨_,rfl⟩;have⟨s1,F1,q1,q2,q3⟩:=Vx (c:=c) (N:=N) (n:=ni) (m:=mi) hpre hok.1 hEx hok.2 g1'.cx (by omega) (by omega) (by omega) (by omega) (by omega) hR;have G:=g1'.call h0 q2 q3;have⟨⟨w1,w2,w3⟩,w4,w5⟩:=mU (F:=FF C.Gf) (G:=ax C.Gf) (K:=ax C.Kf) x hok.1.wd (aZ (aS fs) (aM (p,x)).vs ni) (ni+(aM (p,x)).vs.length) mi;rw[hR]at w1 w2 w3 w4 w5;have hsl:l.list.length<=l.size:=by rw[<-aa.aF];exact l.cq
 have hvs:=hok.2;generalize hd':({k:=(aM (p,x)).k,n:=if (aM (p,x)).k=1 then ax C.Kf (aM (p,x)).n else 0,num:=(aM (p,x)).m,slots:=List.range' ni (aM (p,x)).vs.length,op:=R.1}:cT)=d at*;obtain⟨v',s2,s3,y1,y2,y3,y4,-⟩:=G.grow NX (ix:=6) (new:=cT.cells d) h0 d.sc rfl (by omega) (λ_ _=>rfl) (by simp[Ac]);refine⟨d,s1,v',s2,s3,q1,by rw[ai g1'.ceo];rfl,by rw[ai G.ceo];rfl,y1,y2,y3,L++[d],R.2.1,R.2.2,F1,?_,by simp[g2],?_,?_,?_,?_⟩
 ·rw[Z0];simpa using y4
 ·rw[g3,fx];simp[hR,hd']
 ·omega
 ·omega
 ·omega
theorem aaT(hx:eQ (.mk 8 nm num ps b a l))(hI:∀p∈a.list,jF c p.2)(hL:∀p∈l.list,jF c p.2)(hs:Ex.size (.mk 8 nm num ps b a l)<=1000000)(hb:Bd (.mk 8 nm num ps b a l) m n fs.length (N+1)):uw c C (.mk 8 nm num ps b a l) st m F br n sv fs N:=by
 intro h0 t s rx r5 r7 h hC;have hN:=hb.N;have hops:=hb.ops;have hbos:=hb.bos;have hn:=hb.n;have hd:=hb.d;have hT:=hx.ty;simp only[Ex.Ty]at hT;have aT:aa.Ty a 0:=hT.2.2.2.1;have lT:aa.Ty l 4:=hT.2.2.2.2;have alz:=aa.cq a;have llz:=aa.cq l;have lle:=aa.aF l;have hsz:a.size+l.size+1<=Ex.size (.mk 8 nm num ps b a l):=by simp only[Ex.size];omega
 have a1:1<=a.len:=hx.wd.1.1 (by omega);have ra:=h.ra;cases a with
 |nil f=>simp[aa.len]at a1
 |cons p0 x0 a=>
 have ox0:=hx.arg (p0,x0) (by simp[aa.list]);have z0:x0.size<=aa.size (.cons p0 x0 a):=by simp only[aa.size];omega
 have⟨ar,ix⟩:=Ii aT;have lda:=λst:St=>ei cM gT aX (st:=st) (r:=ar) x0.bp
 have bdx:Bd x0 m n fs.length N:=⟨by omega,by omega,by omega,by omega,by omega⟩;have⟨s1,F1,q1,q2,q3⟩:=hI (p0,x0) (by simp[aa.list]) C s m F br n sv fs N hC bdx;simp only at q1 q2 q3;have⟨⟨g1,g2,g3⟩,g4⟩:=mU (F:=FF C.Gf) (G:=ax C.Gf) (K:=ax C.Kf) x0 ox0.wd (aS fs) n m;obtain⟨R0,hR0⟩:∃R,cg C x0 fs n m=R:=⟨_,rfl⟩;have hR0':cU (FF C.Gf) (ax C.Gf) (ax C.Kf) strF x0 (aS fs) n m=R0:=hR0;rw[hR0']at g1 g2 g3 g4;rw[hR0]at q1 q2;have⟨s2,u1,u2,u3,u4⟩:=bJ (s:=s1) (z:=[.i .i64 0,.i .i64 0,.s [],.sn,.sn,.sn,.sn,.i .i64 0]) (cells:=Ac R0.1 .sn) rfl rfl;have sto:=aC oL o9 (s1.aj [.i .i64 0,.i .i64 0,.s [],.sn,.sn,.sn,.sn,.i .i64 0]) s1.next 0 (Ac R0.1 .sn) rfl;obtain⟨ro,hro⟩:∃r,s1.next=r:=⟨_,rfl⟩;rw[hro]at u1 u2 sto u4;have⟨c1x,c15⟩:=h.uQ h0 (q3.step u3 (by simp) (by simp));have rl1:rd s2 rx 6 1=So [l.slice 11]:=by rw[ai c1x];rfl
 have hF:=q2.mx.gB;have C2:=q2.new u3;have G0:zA C s1 F1 br sv fs ro R0.1 l R0.2.1 R0.2.2 s2 .sn 0 :=
  ⟨[],_,_,F1,⟨C2,Kv.of u3,u2,⟨by omega,u4⟩,λhh=>by have:=hF _ hh;omega,.nil _ _ _ _⟩,rfl,by rw[aa.mI];rfl,by rw[aa.mI];exact Q5 _,by rw[aa.mI];exact Q5 _,by rw[aa.mI];exact Q5 _⟩
 have ecl:Ac R0.1 .sn=[.i .i64 6,.i .i64 0,.s [],.sn,.sn,.sn,.sn,iN R0.1]:=rfl;rw[ecl]at u1 sto;have hm:=I1 (z:=11) lT rfl;have ln:=λst:St=>hm.cP (st:=st) xq
 rw[Q4]at ln;obtain⟨lv,hlv⟩:∃v,l.slice 11=v:=⟨_,rfl⟩;rw[hlv]at hm ln rl1;obtain⟨av,hav⟩:∃v,aa.slice (.cons p0 x0 a) 7=v:=⟨_,rfl⟩;rw[hav]at ra ix
 suffices hh:∃s1,qL (ao lX (nE c N) t s) (cg C (.mk 8 nm num ps b (.cons p0 x0 a) l) fs n m).1 s1/\Gk C s F br (cg C (.mk 8 nm num ps b (.cons p0 x0 a) l) fs n m) s1 by have⟨s1,h1,F',sv1,h2⟩:=hh;exact⟨s1,F',sv1,h1,h2⟩
 unfold qL;simp only[dJ]at q1 u1 sto;simp[lX,aw,f100,h.t4,h.rk,aY];rw[bP (by kernel_rfl)];simp[h.t0,h.t4,h.t5,ra,ix,lda,h.yP,q1,ve.build,aB,zw,hro,sto,u1,rl1,ln,ba];generalize hZ9:aQ _ _ _ _=L;obtain⟨t1,s3,rfl,z0,z4,z5,z11,zI⟩:=cD hZ9 1 l.list.length
  (λi t s'=>ab t 0=.p C.mr 0/\ab t 4=.p rx 0/\ab t 5=.p r5 0/\ab t 11=.p ro 0/\ab t 94=lv/\ab t 95=.i .i64 (l.list.length:Int)/\ab t 96=.i .i64 (i:Int)/\KN C s1 F1 br sv fs ro R0.1 l R0.2.1 R0.2.2 s' i)
  (λt s'=>ab t 0=.p C.mr 0/\ab t 4=.p rx 0/\ab t 5=.p r5 0/\ab t 11=.p ro 0/\KN C s1 F1 br sv fs ro R0.1 l R0.2.1 R0.2.2 s' l.list.length) (by omega)
  ⟨by simp[h.t0],by simp[h.t4],by simp[h.t5],by simp,by simp,by simp,by simp,.sn,G0⟩
  (by
   rintro i t s' hi ⟨i0,i4,i5,i11,i94,i95,i96,v,iI⟩;have e3:(i:Int)<(l.list.length:Int):=by omega
   have e4:wr .i64 ((i:Int)+1)=((i+1:Nat):Int):=by rw[aP (by omega) (by omega)];rfl
   have⟨r,ix⟩:=hm.at xq (k:=i) (by simpa using hi);rw[Z3]at ix;obtain⟨xi,hxi⟩:∃y,l.list[i].1++l.list[i].2.cells=y:=⟨_,rfl⟩;have hty:=aa.dC lT _ (Q6 hi);have hxl:xi.length=11:=by rw[<-hxi,J5,hty.1.len,Ex.bp];rfl
   have hsc:bH xi=true:=by rw[<-hxi];exact jk hty.1.sc (Ex.eU hty.2.wf)
   have ldx:=ei bQ xW bL (st:=s') (r:=r) hxl;rw[hxi]at ix;have⟨s3,y1,y2,y3,y4⟩:=bJ (s:=s') (z:=xN) (cells:=xi) (by rw[hxl];rfl) hsc;have sto3:=aC bQ bL (s'.aj xN) s'.next 0 xi hxl;have ld3:loadAt π 133 s3 (.p s'.next 0)=So (.ag xi):=by rw[cu bQ xW,bL,ai y2,eV,<-hxl,gY];rfl
   have kv3:Kv [C.mr,br] F1 iI.choose_spec.choose_spec.choose_spec.choose s1 s':=iI.choose_spec.choose_spec.choose_spec.choose_spec.1.kv;obtain⟨-,c35⟩:=h.uQ h0 ((q3.call kv3 (λy hy=>.inl hy)).step y3 (by simp) (by simp));have r35:rd s3 r5 0 1=So [.p br 0]:=by rw[ai c35];rfl
   have⟨d,s4,v',s5,s6,p1,p2,p3,p4,p5,p6,p7⟩:=iI.step (N:=N) q2 lT hx.alt hL hi y3 (by omega) (by omega) (by omega) (by omega) (by omega) (by omega);rw[hxi]at p1;have sto6:=bN Yr ac8 s5 ro 6 v' p5;have bo:=λ(t:Tr AV) (h:ah t (.tmp 105)=.ag d.cells)=>ef (S:=Tw c N) (t:=t) (st:=s4) NX (x:=.tmp 105) (cs:=d.cells) (by rw[h];exact gh _) rfl
   simp[i94,i95,i96,e3,ix,ldx,aB,dv,sto3,y1,aY];rw[ft (fl:=[(1,6)])]
   rotate_left
   ·kernel_rfl
   ·intro R hR;simp[i0,i5,i11,p2,ld3,r35,p1,bo,p4,sto6,p6]at hR;subst hR;simp only[Q8,Q9,J1,];exact cZ rfl rfl rfl (s:=s4) (by simp[p3])
   simp[i0,i5,i11,i96,e4,p2,ld3,r35,p1,bo,p4,sto6,p6];exact⟨_,_,⟨rfl,rfl⟩,by simp[i0],by simp[i4],by simp[i5],by simp[i11],by simp[i94],by simp[i95],by simp,v',p7⟩)
  (by rintro t s' ⟨i0,i4,i5,i11,i94,i95,i96,iI⟩;simp[i95,i96];exact⟨_,_,⟨rfl,rfl⟩,by simp[i0],by simp[i4],by simp[i5],by simp[i11],iI⟩)
 clear hZ9;have⟨v,L,ni,mi,Fi,k1,k2,k3,k4,k5,k6⟩:=zI;have⟨f,hf⟩:=aa.De l;rw[hf]at k3;simp only[fx,Z5]at k3;have eR:cg C (.mk 8 nm num ps b (.cons p0 x0 a) l) fs n m=eh {k:=6,next:=R0.1,chs:=L} ni mi:=by unfold cg;rw[cU];simp[gj,hR0',k3]
 rw[eR];simp only[eh];have lt3:=k1.lt;have ce3:=k1.ceo;have ld4:loadAt π 87 s3 (.p ro 0)=So (.ag [.i .i64 6,.i .i64 0,.s [],.sn,.sn,.sn,v,iN R0.1]):=by rw[cu oL wh,o9,ai ce3];rfl
 have⟨s5,F',Y,p1,p2,p3,p4⟩:=QK (c:=c) (N:=N) (o:={k:=6,next:=R0.1,chs:=L}) (A:=[.i .i64 6,.i .i64 0,.s [],.sn,.sn,.sn]) (B:=[iN R0.1]) k1.cx.mx rfl rfl k1.ow (mj _ cT.pure _) (by rw[<-k2];rfl) (by have:=hC.mx.lt;have:=q3.next;omega) (by omega) (by omega);have hbr:=hC.lt;have hmr:=hC.mx.lt;have n13:=q3.next;refine⟨s5,?_,F',sv,p2,k1.cx.uL p3 (λhh=>?_),(q3.call k1.kv (λy hy=>.inl hy)).call p3 (λy hy=>?_)⟩
 ·simp at p1;simp only[dJ]at ld4 p1;simp[z0,z11,ld4,p1,dJ]
 ·rcases Q1.1 hh with hh|hh
  ·omega
  ·have:=p4 _ hh;omega
 ·rcases Q1.1 hy with hy|hy
  ·left;simp[hy]
  ·right;have:=p4 _ hy;omega
end
section
variable {r5:Nat}
theorem Vr(hB:pk c x)(h:Cx C s m F br n sv fs)(hz:x.size<=1000000)(h1:m.ops.length+(fE x).size<=4000000)(h2:m.bos.length+2*(fE x).size<=4000000)(hd:fs.length<=3000000)(hN:10*(fE x).size+20000000000000000006<=N):
  ∃s' F',(Tw c N).call 201 [.p C.mr 0,.ag x.cells,.p br 0] s=So (.tu [iN (fZ C x m).1,bz ((FF C.Gf x).map (eJ (ax C.Gf) (aS fs)))],s')/\Cx C s' (fZ C x m).2 F' br n sv fs/\Kv [C.mr] F F' s s':=by
 cases N
 ·omega
 rename_i N;rw[dV rfl func201 rfl (J8 rfl)];unfold aJ;have kx:=Kp.aj (st:=s) [] [] x.cells;have cx:=bq (st:=s) x.cells;obtain⟨s1,hs1⟩:∃t,s.aj x.cells=t:=⟨_,rfl⟩;rw[hs1]at kx cx;have ld:loadAt π 47 s1 (.p s.next 0)=So (.ag x.cells):=by rw[cu cM gT,aX,ai cx,eV,<-x.bp,gY];rfl
 have C1:=h.new kx;have⟨s2,F2,v,q1,q2,q3,q4,q5⟩:=hB C s1 m F N C1.mx hz h1 h2 (by omega);have C2:=C1.to q5 q4;have⟨s3,w1,w2⟩:=PE (c:=c) q2 q3 C2.ic C2.wx (N:=N) (by omega);refine⟨s3,F2,?_,C2.new w2,((Kv.of kx).call q5 (λy hy=>.inl hy)).step w2 (by simp) (by simp)⟩;simp only[dJ]at q1;simp[f201,hs1,ld,q1,w1,bf,aO,dJ]
theorem FO{S:aK}(hx:eQ x)(h2:x.kind≠2)(h3:x.kind≠3)(h4:x.kind≠4):Go.Ev.valOf (FF C.Gf) (ax C.Gf) (ax C.Kf) S x (gN (FF C.Gf) (ax C.Gf) (ax C.Kf) strF x) (cU (FF C.Gf) (ax C.Gf) (ax C.Kf) strF x) m =
  ((if x.kind=5 then 2 else 1,(fZ C x m).1,(FF C.Gf x).map (eJ (ax C.Gf) S)),(fZ C x m).2):=by
 have⟨k,nm,num,ps,b,a,l⟩:=x;simp only[Ex.kind]at h2 h3 h4;unfold Go.Ev.valOf;by_cases h5:k=5
 ·subst h5;cases a with
  |nil f=>have:=hx.wd.1.1 (.inl rfl);simp[aa.len]at this
  |cons p0 x0 a=>simp[fZ,fE,tk,Ex.kind,gN,gj]
 ·simp[h2,h3,h4,h5,fZ,fE,tk,Ex.kind]
theorem aaP{l:List ae}{g:Option Nat}(h:bD s lo 1 v l.length (l.map .s) g)(h0:l.length=0->v=.sn)(hbr:br<lo):Ge s br v l:=by
 refine⟨h.len,λi hi=>?_⟩;rcases h with ⟨rfl,h1,-⟩|⟨r,rfl,h1,-⟩|⟨r,f,al,-,rfl,h1,h2,h3,h4,h5,h6,h7⟩
 ·omega
 ·have:=h0 h1;cases this
 ·refine⟨.p r (0+i*1),wH eL.und eL.inf eL.sz _ _ _ _ _ hi,λs' k=>?_⟩;have c1:=k.ce h1 h6 h7 (by simp;omega) (by simp;omega);rw[ry mP mF,ai c1,Z9,Nat.mul_one,uU _ _ _ (by simp;omega)];rw[List.drop_eq_getElem_cons (by simpa using hi)];simp[oneOf]
end
def ph(s:St)(lo:Nat)(F:List Nat)(cs:List AV)(d:dG):Prop:=cs=d.cells\/∃r,cs=[iN d.k,iN d.n,.sl r 0 1 2 (So 1),iN d.slot]/\s.ce r=So (d.rs.flatMap bI,r,[r])/\d.rs.length=1/\lo<=r/\r<s.next/\r∉F
def gS(s:St)(lo:Nat)(F:List Nat):List AV->List dG->Prop
 |cs,[]=>cs=[]
 |cs,d::L=>∃a rest,cs=a++rest/\ph s lo F a d/\gS s lo F rest L
theorem ph.mono(h:ph s lo F cs d)(hk:∀r,s.ce r=So (d.rs.flatMap bI,r,[r])->(d.rs.flatMap bI).length=2->lo<=r->r<s.next->r∉F->s'.ce r=So (d.rs.flatMap bI,r,[r])/\r<s'.next/\r∉F'):ph s' lo F' cs d:=by
 rcases h with h|⟨r,h1,h2,h3,h4,h5,h6⟩
 ·exact .inl h
 ·have⟨k1,k2,k3⟩:=hk r h2 (by rw[AQ (z:=2) bI (λ_=>rfl) d.rs,h3]) h4 h5 h6;exact .inr ⟨r,h1,k1,h3,h4,k2,k3⟩
theorem gS.mono(hk:∀r l,s.ce r=So (l,r,[r])->l.length=2->lo<=r->r<s.next->r∉F->s'.ce r=So (l,r,[r])/\r<s'.next/\r∉F'):∀{L:List dG}{cs:List AV},gS s lo F cs L->gS s' lo F' cs L
 |[],_,h=>h
 |d::_,_,⟨a,rest,h1,h2,h3⟩=>⟨a,rest,h1,h2.mono λr q1 q2=>hk r _ q1 q2,gS.mono hk h3⟩
theorem gS.snoc{a:List AV}{d:dG}(hd:ph s lo F a d):∀{L:List dG}{cs:List AV},gS s lo F cs L->gS s lo F (cs++a) (L++[d])
 |[],cs,h=>by rw[show cs=[] from h];exact⟨a,[],by simp,hd,rfl⟩
 |e::L,_,⟨b,rest,h1,h2,h3⟩=>⟨b,rest++a,by rw[h1,K8],h2,gS.snoc hd h3⟩
theorem ph.gB(h:ph s lo F cs d):∀y∈cs.flatMap (ja s),lo<=y/\y∉F:=by
 intro y hy;rcases h with rfl|⟨r,rfl,h2,h3,h4,h5,h6⟩
 ·rw[Du d.pure]at hy;cases hy
 ·simp[ja,h2,iN]at hy;subst hy;exact⟨h4,h6⟩
theorem gS.gB:∀{L:List dG}{cs:List AV},gS s lo F cs L->∀y∈cs.flatMap (ja s),lo<=y/\y∉F
 |[],cs,h,y,hy=>by rw[show cs=[] from h]at hy;cases hy
 |d::L,_,⟨a,rest,h1,h2,h3⟩,y,hy=>by rw[h1,Z0]at hy;exact(J3.1 hy).elim (h2.gB y) (gS.gB h3 y)
theorem ph.fz(h:ph s lo F cs d)(hq:∀y∈cs.flatMap (ja s),q y=Tt):da q s cs d.cells:=by
 rcases h with rfl|⟨r,rfl,h2,h3,h4,h5,h6⟩
 ·exact .pure d.pure
 ·have e:d.cells=[iN d.k,iN d.n,.rs (d.rs.flatMap bI) 1 2,iN d.slot]:=by
   unfold dG.cells bz eA;rw[h3];rfl
  rw[e];exact .cons (.pure rfl) (.cons (.pure rfl) (.cons (.slice h2 (by rw[AQ (z:=2) bI (λ_=>rfl) d.rs,h3]) (hq r (by simp[ja,h2,iN])) (.pure (mj _ (λ_=>rfl) _)) (by omega)) (.cons (.pure rfl) .nil)))
theorem Ic{a a' b b':List AV}(h:da q s a a')(k:da q s b b'):da q s (a++b) (a'++b'):=by
 obtain⟨d,h⟩:=h;obtain⟨e,k⟩:=k;refine⟨max d e,?_⟩;have h':=jy (rQ d (max d e) (by omega)) h;have k':=jy (rQ e (max d e) (by omega)) k;clear h k;induction a generalizing a' with
 |nil=>simp only[du]at h';cases h';exact k'
 |cons x a ih=>
  simp only[du]at h';cases hx:fk q (max d e) s x with
  |none=>simp[hx]at h'
  |some x'=>
   cases ha:du (fk q (max d e) s) a with
   |none=>simp[hx,ha]at h'
   |some a2=>simp[hx,ha]at h';subst h';have:=ih ha;simp only[Q2,du,hx,this]
theorem gS.fz{q:Nat->Bool}:∀{L:List dG}{cs:List AV},gS s lo F cs L->(∀y∈cs.flatMap (ja s),q y=Tt)->da q s cs (L.flatMap dG.cells)
 |[],cs,h,_=>by rw[show cs=[] from h];exact .nil
 |d::L,_,⟨a,rest,h1,h2,h3⟩,hq=>by subst h1;rw[Z0]at hq;exact Ic (h2.fz λy hy=>hq y (Z8 _ hy)) (gS.fz h3 λy hy=>hq y (J4 _ hy))
theorem abq{A B:List AV}(h:dU C s m F)(hA:aA A=Tt)(hB:aA B=Tt)(ho:hZ s lo 4 v L.length cs F)(hr:gS s lo F cs L)(e:o.cells=A++ox L::B)(hlo:C.lo<=lo)(hm:m.ops.length<=5000000)(hN:20<=N):
  ∃s' F' Y,(Tw c N).call 146 [.p C.mr 0,.ag (A++v::B)] s=So (iN m.ops.length,s')/\dU C s' ⟨m.ops++[o],m.bos⟩ F'/\Kv (C.mr::Y) F F' s s'/\∀y∈Y,lo<=y:=by
 have⟨g,h1,h2,h3⟩:=ho.rows;have key:lJ 146 [.p C.mr 0,.ag (A++v::B)] s=λy=>(mL s v).contains y:=by funext y;unfold lJ;simp[Am,Z0,vb hA,vb hB]
 have gB:∀y∈mL s v,lo<=y/\y∉F:=by
  rcases h1 with ⟨rfl,-⟩|⟨r,rfl,h0,-⟩|⟨r,f,al,rfl,rfl,k1,k2,k3,k4,k5,k6,k7⟩
  ·simp[mL]
  ·have:=h2 h0;cases this
  ·intro y hy;simp only[mL,k1,Q1]at hy;rcases hy with rfl|hy
   ·exact⟨(h3 y (by simp[oR])).2.1,(h3 y (by simp[oR])).1⟩
   ·exact hr.gB y hy
 have⟨s',F',q1,q2,q3⟩:=EW (c:=c) (N:=N) (o:=o) h (l:=A++v::B) (Y:=mL s v) (by
  rw[e,key];have hv:di (λy=>(mL s v).contains y) s v (ox L):=by
   unfold ox eA;rcases h1 with ⟨rfl,h0,-⟩|⟨r,rfl,h0,-⟩|⟨r,f,al,rfl,rfl,k1,k2,k3,k4,k5,k6,k7⟩
   ·rw[if_pos h0];exact .pure rfl
   ·have:=h2 h0;cases this
   ·rw[if_neg (by omega)];exact .slice k1 k2.symm (by simp[mL,k1]) (hr.fz λy hy=>by simp only[mL,k1,List.contains_iff_mem,Q1];exact .inr hy) (by omega)
  exact Ic (da.pure hA) (.cons hv (.pure hB))) (λy hy=>by
  rw[key]at hy;simpa using hy) (λy hy=>⟨by have:=(gB y hy).1;omega,(gB y hy).2⟩) hm hN
 exact⟨s',F',_,q1,q2,q3,λy hy=>(gB y hy).1⟩
theorem Cx.QJ(h0:Cx C s0 m0 F br n0 sv fs)(kv:Kv [C.mr,br] F Fi s0 s)(h:Cx C s mi Fi br ni sv fs){l:List AV}(hc:s.ce r=So (l,r,[r]))(hr:s0.next<=r)(hf:r∉Fi)(i:Nat)(v:AV)(hi:i+1<=l.length)(hv:bR v=Tt):
  ∃s',wt s r i [v]=So s'/\s'.ce r=So (aW l i [v],r,[r])/\Cx C s' mi Fi br ni sv fs/\Kv [C.mr,br] F Fi s0 s'/\Kp [r] [r] s s':=by
 have hw:=c9 hc i [v] hi (by simp[hv]);have k:Kp [r] [r] s (s.aG r (aW l i [v]) r):=.aG (by simp) (by simp);have⟨b1,b2⟩:=h0.own kv h k (λy hy=>by
  rw[Q7.1 hy];exact⟨hr,.inr λl g al hh=>by rw[hc]at hh;cases hh;exact hf⟩) (λy hy=>by
  rw[Q7.1 hy];exact⟨hr,hf⟩)
 exact⟨_,hw,dA _ _ _,b1,b2,k⟩
structure jH(C:dT)(s0:St)(F:List Nat)(br n0:Nat)(sv:AV)(fs:List aK)(s:St)(mi:Ms)(Fi:List Nat)(rb r14:Nat)(bc:List AV)(l:List AV):Prop where
 cx:Cx C s mi Fi br n0 sv fs
 kv:Kv [C.mr,br] F Fi s0 s
 cb:s.ce rb=So (bc,rb,[rb])
 c14:s.ce r14=So (l,r14,[r14])
 lb:s0.next<=rb/\rb<s.next/\rb∉Fi
 l14:s0.next<=r14/\r14<s.next/\r14∉Fi
 ne:rb≠r14
section
variable {l:List AV}
theorem jH.kp(h:jH C s0 F br n0 sv fs s mi Fi rb r14 bc l)(k:Kp [] [] s s'):jH C s0 F br n0 sv fs s' mi Fi rb r14 bc l :=
 ⟨h.cx.new k,h.kv.step k (by simp) (by simp),k.ce h.cb h.lb.2.1 h.lb.2.1 (by simp) (by simp),k.ce h.c14 h.l14.2.1 h.l14.2.1 (by simp) (by simp),⟨h.lb.1,Q0 h.lb.2.1 k.next,h.lb.2.2⟩,⟨h.l14.1,Q0 h.l14.2.1 k.next,h.l14.2.2⟩,h.ne⟩
theorem jH.set(h0:Cx C s0 m0 F br nb sv fs)(h:jH C s0 F br n0 sv fs s mi Fi rb r14 bc l)(i:Nat)(v:AV)(hi:i+1<=l.length)(hv:bR v=Tt):∃s',wt s r14 i [v]=So s'/\jH C s0 F br n0 sv fs s' mi Fi rb r14 bc (aW l i [v])/\Kp [r14] [r14] s s':=by have⟨s',a1,a2,a3,a4,a5⟩:=Cx.QJ h0 h.kv h.cx h.c14 h.l14.1 h.l14.2.2 i v hi hv;exact⟨s',a1,⟨a3,a4,a5.ce h.cb h.lb.2.1 h.lb.2.1 (by simp;exact h.ne) (by simp;exact h.ne),a2,⟨h.lb.1,Q0 h.lb.2.1 a5.next,h.lb.2.2⟩,⟨h.l14.1,Q0 h.l14.2.1 a5.next,h.l14.2.2⟩,h.ne⟩,a5⟩
theorem jH.call{m2:Ms}{F2:List Nat}(h0:Cx C s0 m0 F br nb sv fs)(h:jH C s0 F br n0 sv fs s mi Fi rb r14 bc l)(hc:Cx C s' m2 F2 br n0 sv fs)(k:Kv [C.mr] Fi F2 s s'):jH C s0 F br n0 sv fs s' m2 F2 rb r14 bc l:=by
 have hl:=h0.mx.lt;have lb:=h.lb;have l14:=h.l14;have no:∀y,s0.next<=y->y∉Fi->y∉[C.mr]++Fi:=λy hy hn hh=>by
  simp only[Q2,Q3,Q1]at hh;rcases hh with hh|hh
  ·omega
  ·exact hn hh
 exact⟨hc,h.kv.call k (by simp),k.ce h.cb lb.2.1 lb.2.1 (no _ lb.1 lb.2.2) (no _ lb.1 lb.2.2),k.ce h.c14 l14.2.1 l14.2.1 (no _ l14.1 l14.2.2) (no _ l14.1 l14.2.2),⟨lb.1,Q0 lb.2.1 k.next,k.out lb.2.1 lb.2.2⟩,⟨l14.1,Q0 l14.2.1 k.next,k.out l14.2.1 l14.2.2⟩,h.ne⟩
section
variable {al:aa}{slot:Nat}
theorem adV(h0:Cx C s0 m0 F br nb sv fs)(h:jH C s0 F br n0 sv fs s mi Fi rb r14 ([.s bn]++Ex.cells (.mk 4 nm num ps b a al)) [.i .i64 0,.i .i64 0,.sn,iN slot])(hx:eQ (.mk 4 nm num ps b a al))(hz:Ex.size (.mk 4 nm num ps b a al)<=1000000)(hN:fs.length+1000100<=N):
  ∃sb sc sd se,(Tw c N).call 57 [.p C.mr 0,a.slice 7,.p br 0] s=So (bz (gQ (ax C.Gf) (aS fs) a),sb)/\wt sb r14 0 [.i .i64 3]=So sc/\wt sc r14 1 [iN (ax C.Kf nm)]=So sd/\wt sd r14 2 [bz (gQ (ax C.Gf) (aS fs) a)]=So se/\
   (∀S,S=s\/S=sb\/S=sc->rd S C.mr 6 1=So [.m C.kr]/\lookup π 66 S (.m C.kr) (.s nm) false=So (iN (ax C.Kf nm))/\rd S rb 2 1=So [.s nm]/\rd S rb 6 1=So [a.slice 7])/\
   jH C s0 F br n0 sv fs se mi Fi rb r14 ([.s bn]++Ex.cells (.mk 4 nm num ps b a al)) [.i .i64 3,iN (ax C.Kf nm),bz (gQ (ax C.Gf) (aS fs) a),iN slot]/\Kp [r14] [r14] s se:=by
 have aT:aa.Ty a 0:=by have:=hx.ty;simp only[Ex.Ty]at this;exact this.2.2.2.1
 have alz:=aa.cq a;rw[aa.aF]at alz;have hsz:a.size+1<=Ex.size (.mk 4 nm num ps b a al):=by simp only[Ex.size];omega
 have⟨sb,q1,q2⟩:=Fc (c:=c) (l:=a.list.map (·.2)) (wm aT) (λx hx=>by obtain⟨y,hy,rfl⟩:=J6.1 hx;exact(aa.dC aT y hy).2) (by rw[Q4];omega) h.cx.ic h.cx.wx (N:=N) (by omega);have er:(a.list.map (·.2)).map (atR (ax C.Gf) (aS fs))=gQ (ax C.Gf) (aS fs) a:=by rw[Z4];rfl
 rw[er]at q1;have H1:=h.kp q2;have⟨sc,b1,H2,b3⟩:=H1.set h0 0 (.i .i64 3) (by simp) rfl;have⟨sd,c1,H3,c3⟩:=H2.set h0 1 (iN (ax C.Kf nm)) (by simp[aW]) rfl;have⟨se,d1,H4,d3⟩:=H3.set h0 2 (bz (gQ (ax C.Gf) (aS fs) a)) (by simp[aW]) (od _ _ _);refine⟨sb,sc,sd,se,q1,b1,c1,d1,λS hS=>?_,H4,(((q2.sub (by simp) (by simp)).trans b3).trans c3).trans d3⟩;have key:∀{S:St}{l:List AV},jH C s0 F br n0 sv fs S mi Fi rb r14 ([.s bn]++Ex.cells (.mk 4 nm num ps b a al)) l->rd S C.mr 6 1=So [.m C.kr]/\lookup π 66 S (.m C.kr) (.s nm) false=So (iN (ax C.Kf nm))/\rd S rb 2 1=So [.s nm]/\rd S rb 6 1=So [a.slice 7]:=λ{S l} hh=>by have⟨d0,d1,d2,d3,d4,hA⟩:=hh.cx.ic.at';have lk:=hh.cx.ic.hK.get nR nm;rw[vA]at lk;exact⟨by rw[hA.rd];rfl,lk,by rw[ai hh.cb];rfl,by rw[ai hh.cb];rfl⟩
 rcases hS with rfl|rfl|rfl
 ·exact key h
 ·exact key H1
 ·exact key H2
theorem adU(h0:Cx C s0 m0 F br nb sv fs)(h:jH C s0 F br n0 sv fs s mi Fi rb r14 bc [.i .i64 0,.i .i64 0,.sn,iN slot])(hN:fs.length+30<=N):
  ∃sb sc sd,(Tw c N).call 58 [.p C.mr 0,.ag x.cells,.p br 0] s=So (.ag (bI (atR (ax C.Gf) (aS fs) x)),sb)/\wt (sb.aj (bI (atR (ax C.Gf) (aS fs) x))) r14 0 [.i .i64 4]=So sc/\wt sc r14 2 [.sl sb.next 0 1 2 (So 1)]=So sd/\
   jH C s0 F br n0 sv fs sd mi Fi rb r14 bc [.i .i64 4,.i .i64 0,.sl sb.next 0 1 2 (So 1),iN slot]/\Kp [r14] [r14] s sd/\sd.ce sb.next=So (bI (atR (ax C.Gf) (aS fs) x),sb.next,[sb.next])/\s.next<=sb.next/\sb.next<sd.next:=by
 have⟨sb,q1,q2⟩:=Fb (c:=c) (x:=x) h.cx.ic h.cx.wx (N:=N) (by omega);generalize atR (ax C.Gf) (aS fs) x=r at*;have k2:=Kp.aj (st:=sb) [] [] (bI r);have c2:=bq (st:=sb) (bI r);have n2:(sb.aj (bI r)).next=sb.next+1:=rfl;have H1:=(h.kp q2).kp k2;have⟨sc,b1,H2,b3⟩:=H1.set h0 0 (.i .i64 4) (by simp) rfl;have⟨sd,d1,H3,d3⟩:=H2.set h0 2 (.sl sb.next 0 1 2 (So 1)) (by simp[aW]) rfl;have l14:=h.l14;have n1:=q2.next;have n3:=b3.next;have n4:=d3.next;exact⟨sb,sc,sd,q1,b1,d1,H3,(((q2.trans k2).sub (by simp) (by simp)).trans b3).trans d3,d3.ce (b3.ce c2 (by omega) (by omega) (by simp;omega) (by simp;omega)) (by omega) (by omega) (by simp;omega) (by simp;omega),n1,by omega⟩
theorem SO{kd:Nat}(hB:pk c x)(h0:Cx C s0 m0 F br nb sv fs)(h:jH C s0 F br n0 sv fs s mi Fi rb r14 bc [.i .i64 0,.i .i64 0,.sn,iN slot])(hz:x.size<=1000000)(h1:mi.ops.length+(fE x).size<=4000000)(h2:mi.bos.length+2*(fE x).size<=4000000)(hd:fs.length<=3000000)(hN:10*(fE x).size+20000000000000000006<=N):
  ∃sb sc sd se F2,wt s r14 0 [.i .i64 (kd:Int)]=So sb/\(Tw c N).call 201 [.p C.mr 0,.ag x.cells,.p br 0] sb=So (.tu [iN (fZ C x mi).1,bz ((FF C.Gf x).map (eJ (ax C.Gf) (aS fs)))],sc)/\wt sc r14 1 [iN (fZ C x mi).1]=So sd/\wt sd r14 2 [bz ((FF C.Gf x).map (eJ (ax C.Gf) (aS fs)))]=So se/\
   jH C s0 F br n0 sv fs se (fZ C x mi).2 F2 rb r14 bc [.i .i64 (kd:Int),iN (fZ C x mi).1,bz ((FF C.Gf x).map (eJ (ax C.Gf) (aS fs))),iN slot]/\Kp [r14] [r14] s sb/\Kv [C.mr] Fi F2 sb sc/\Kp [r14] [r14] sc se/\sb.ce rb=So (bc,rb,[rb]):=by
 have⟨sb,b1,H1,b3⟩:=h.set h0 0 (.i .i64 (kd:Int)) (by simp) rfl;have⟨sc,F2,q1,q2,q3⟩:=Vr (c:=c) (N:=N) hB H1.cx hz h1 h2 hd hN;have H2:=H1.call h0 q2 q3;have⟨sd,c1,H3,c3⟩:=H2.set h0 1 (iN (fZ C x mi).1) (by simp[aW]) rfl;have⟨se,d1,H4,d3⟩:=H3.set h0 2 (bz ((FF C.Gf x).map (eJ (ax C.Gf) (aS fs)))) (by simp[aW]) (od _ _ _);exact⟨sb,sc,sd,se,F2,b1,q1,c1,d1,H4,b3,q3,c3.trans d3,H1.cb⟩
end
end
set_option maxHeartbeats 8000000
def qT(v:AV):List AV:=[.i .i64 5,.i .i64 0,.s [],.sn,.sn,v,.sn,.i .i64 0]
abbrev vz(C:dT)(b:aa)(fs:List aK)(n:Nat)(m:Ms):List dG×Ms:=iw (FF C.Gf) (ax C.Gf) (ax C.Kf) strF b (aS fs) n m
abbrev qi(C:dT)(x:Ex)(fs:List aK)(m:Ms):(Nat×Nat×List Rf)×Ms:=Go.Ev.valOf (FF C.Gf) (ax C.Gf) (ax C.Kf) (aS fs) x (gN (FF C.Gf) (ax C.Gf) (ax C.Kf) strF x) (cU (FF C.Gf) (ax C.Gf) (ax C.Kf) strF x) m
def ug(C:dT)(s0:St)(F:List Nat)(br:Nat)(sv:AV)(fs:List aK)(ro:Nat)(b:aa)(n:Nat)(m:Ms)(s:St)(v:AV)(i:Nat):Prop:=∃L cs mi Fi,kU C s0 F br sv fs ro qT 4 s i v cs mi (n+b.len) Fi/\gS s (ro+1) Fi cs L/\L.length=i/\
 vz C b fs n m=(L++(vz C (b.dr i) fs (n+i) mi).1,(vz C (b.dr i) fs (n+i) mi).2)/\
 mi.ops.length+(b.dr i).size<=m.ops.length+b.size/\mi.bos.length+2*(b.dr i).size<=m.bos.length+2*b.size
def KM(C:dT)(s0:St)(F:List Nat)(br:Nat)(sv:AV)(fs:List aK)(ro:Nat)(b:aa)(n:Nat)(m:Ms)(s:St)(i:Nat):Prop:=∃v,ug C s0 F br sv fs ro b n m s v i
theorem kU.more(h0:Cx C s0 m0 F br nb sv fs)(h1:kU C s0 F br sv fs ro qT 4 s i v cs mi n0 Fi)(h2:gS s (ro+1) Fi cs L)(hV:jH C s0 F br n0 sv fs s' m2 F2 rb r14 bc [iN d.k,iN d.n,rv,iN d.slot])(k:Kv [C.mr,br] Fi F2 s s')(hrv:bR rv=Tt)(hd:ph s' (ro+1) F2 [iN d.k,iN d.n,rv,iN d.slot] d)(hi:i+1<=10000000):
  ∃v' s2 s3,rd s' ro 5 1=So [v]/\fD π (s'.aj [iN d.k,iN d.n,rv,iN d.slot]) [84,84] [v,.sl s'.next 0 1 4 (So 1)]=So (v',s2)/\v'.cells=So [v']/\wt s2 ro 5 [v']=So s3/\kU C s0 F br sv fs ro qT 4 s3 (i+1) v' (cs++[iN d.k,iN d.n,rv,iN d.slot]) m2 n0 F2/\gS s3 (ro+1) F2 (cs++[iN d.k,iN d.n,rv,iN d.slot]) (L++[d]):=by
 have H:=h1.call h0 hV.cx k;have hl:=h0.mx.lt;have hb:=h0.lt;have lt:=h1.lt;have h2':gS s' (ro+1) F2 cs L:=h2.mono λr l q1 q2 q3 q4 q5=>by
  have no:r∉[C.mr,br]++Fi:=λhh=>by grind
  exact⟨k.ce q1 q4 q4 no no,Q0 q4 k.next,k.out q4 q5⟩
 have⟨v',s2,s3,y1,y2,y3,y4,y5⟩:=H.grow Az (ix:=5) (new:=[iN d.k,iN d.n,rv,iN d.slot]) h0 (by simp[iN,hrv]) rfl hi (λ_ _=>rfl) (by simp[qT]);refine⟨v',s2,s3,by rw[ai H.ceo];rfl,y1,y2,y3,y4,(gS.snoc hd h2').mono λr l q1 q2 q3 q4 q5=>?_⟩;grind
theorem ug.fin(h0:Cx C s0 m0 F br nb sv fs)(hok:∀p∈b.list,eQ p.2)(h1:kU C s0 F br sv fs ro qT 4 s i v cs mi (n+b.len) Fi)(h2:gS s (ro+1) Fi cs L)(h3:L.length=i)(h4:vz C b fs n m=(L++(vz C (b.dr i) fs (n+i) mi).1,(vz C (b.dr i) fs (n+i) mi).2))(h5:mi.ops.length+(b.dr i).size<=m.ops.length+b.size)(h6:mi.bos.length+2*(b.dr i).size<=m.bos.length+2*b.size)(hi:i<b.list.length)(hz:b.size<=1000000)
  (hV:jH C s0 F br (n+b.len) sv fs s' m2 F2 rb r14 bc [iN d.k,iN d.n,rv,iN d.slot]) (k:Kv [C.mr,br] Fi F2 s s') (hrv:bR rv=Tt) (hd:ph s' (ro+1) F2 [iN d.k,iN d.n,rv,iN d.slot] d) (hva:qi C b.list[i].2 fs mi=((d.k,d.n,d.rs),m2)) (hsl:d.slot=n+i):
  ∃v' s2 s3,rd s' ro 5 1=So [v]/\fD π (s'.aj [iN d.k,iN d.n,rv,iN d.slot]) [84,84] [v,.sl s'.next 0 1 4 (So 1)]=So (v',s2)/\v'.cells=So [v']/\wt s2 ro 5 [v']=So s3/\ug C s0 F br sv fs ro b n m s3 v' (i+1):=by
 have hsl2:b.list.length<=b.size:=by rw[<-aa.aF];exact b.cq
 have⟨v',s2,s3,y1,y2,y3,y4,y5,y6⟩:=h1.more h0 h2 hV k hrv hd (by omega);have hdr:=aa.ye hi;rw[hdr]at h4 h5 h6;have hmem:=Q6 hi;have hw:=(hok _ hmem).wd;have gw:=FP (F:=FF C.Gf) (G:=ax C.Gf) (K:=ax C.Kf) (S:=aS fs) (x:=b.list[i].2) (m:=mi) (lam:=gN (FF C.Gf) (ax C.Gf) (ax C.Kf) strF b.list[i].2) (ex:=cU (FF C.Gf) (ax C.Gf) (ax C.Kf) strF b.list[i].2) (λS n=>Ee _ hw S n mi) (λS n=>mU _ hw S n mi);have gw:(qi C b.list[i].2 fs mi).2.ops.length<=mi.ops.length+b.list[i].2.size/\(qi C b.list[i].2 fs mi).2.bos.length<=mi.bos.length+2*b.list[i].2.size:=gw;rw[hva]at gw;simp only[aa.size]at h5 h6 gw;refine⟨v',s2,s3,y1,y2,y3,y4,L++[d],_,m2,F2,y5,y6,by grind,?_,by omega,by omega⟩;rw[h4,vz,iw];have⟨dk,dn,dr,ds⟩:=d;grind
theorem Oh:∀x:Ex,(fE x).size<=x.size
 |.mk k nm num ps b a l=>by
  by_cases h:k=5
  ·cases a with
   |nil f=>simp[fE]
   |cons p x a=>simp only[fE,h,if_true,Ex.size,aa.size];omega
  ·simp[fE,h]
def KW(st s:St)(rx:Nat)(xc:List AV)(l:List ae)(v:AV)(i:Nat):Prop:=∃g,bD s (rx+1) 1 v i ((l.take i).map .s) g/\(i=0->v=.sn)/\Kp [] [] st s/\s.ce rx=So (xc,rx,[rx])/\rx<s.next
theorem Ze(hx:eQ (.mk 7 nm num ps b a l))(hI:∀p∈a.list,jF c p.2)(hB:∀p∈b.list,pk c p.2)(hs:Ex.size (.mk 7 nm num ps b a l)<=1000000)(h:Cx C st m F br n sv fs)(hb:Bd (.mk 7 nm num ps b a l) m n fs.length (N+2)):
  ∃s',(Tw c N).call 148 [.p C.mr 0,.ag (Ex.cells (.mk 7 nm num ps b a l)),.p br 0] st=So (iN (cg C (.mk 7 nm num ps b a l) fs n m).1,s')/\Gk C st F br (cg C (.mk 7 nm num ps b a l) fs n m) s':=by
 have hN:=hb.N;have hops:=hb.ops;have hbos:=hb.bos;have hn:=hb.n;have hd:=hb.d;cases N
 ·omega
 rename_i N;have hT:=hx.ty;simp only[Ex.Ty]at hT;have bT:aa.Ty b 1:=hT.2.2.1;have aT:aa.Ty a 0:=hT.2.2.2.1;have blz:=aa.cq b;have ble:=aa.aF b;have bnl:b.names.length=b.len:=fg b;have hsz:b.size+a.size+1<=Ex.size (.mk 7 nm num ps b a l):=by simp only[Ex.size];omega
 have a1:1<=a.len:=hx.wd.1.1 (by omega);have hF:=h.mx.gB;have hbr:=h.lt;have hmr:=h.mx.lt;have hsv:=h.sc.cells;rw[dV rfl func148 rfl (J8 rfl)];unfold aJ;obtain⟨xc,hxc⟩:∃y,Ex.cells (.mk 7 nm num ps b a l)=y:=⟨_,rfl⟩;rw[hxc];have kx:=Kp.aj (st:=st) [] [] xc;have cx:=bq (st:=st) xc;have nx:(st.aj xc).next=st.next+1:=rfl;obtain⟨s1,hs1⟩:∃t,st.aj xc=t:=⟨_,rfl⟩;rw[hs1]at kx cx nx;obtain⟨rx,hrx⟩:∃r,st.next=r:=⟨_,rfl⟩;rw[hrx]at cx nx;have rk:∀{S:St},S.ce rx=So (xc,rx,[rx])->rd S rx 4 1=So [b.slice 8]/\rd S rx 5 1=So [a.slice 7]:=λ{S} hS=>by constructor<;>(rw[ai hS,<-hxc];rfl)
 have hm:=I1 (z:=8) bT rfl;have ln:=λst:St=>hm.cP (st:=st) xm
 rw[Q4]at ln;obtain⟨bv,hbv⟩:∃v,b.slice 8=v:=⟨_,rfl⟩;rw[hbv]at hm ln;simp only[hbv]at rk;have rk1:=(rk cx).1;simp[f148,hrx,hs1,rk1,ln,ba];generalize hL:aQ _ _ _ _=L;obtain⟨t2,s2,rfl,z0,z2,z4,zI⟩:=cD hL 0 b.list.length
  (λi t s=>ab t 0=.p C.mr 0/\ab t 2=.p br 0/\ab t 4=.p rx 0/\ab t 16=bv/\ab t 17=.i .i64 (b.list.length:Int)/\ab t 18=.i .i64 (i:Int)/\KW st s rx xc b.names (ab t 7) i)
  (λt s=>ab t 0=.p C.mr 0/\ab t 2=.p br 0/\ab t 4=.p rx 0/\KW st s rx xc b.names (ab t 7) b.list.length) (by omega)
  ⟨by simp,by simp,by simp,by simp,by simp,by simp,No,by simpa using bD.nil _ _ _,by simp,kx,cx,by omega⟩
  (by
   rintro i t s hi ⟨i0,i2,i4,i16,i17,i18,g,iO,iZ,iK,ix,il⟩;have e3:(i:Int)<(b.list.length:Int):=by omega
   have e4:wr .i64 ((i:Int)+1)=((i+1:Nat):Int):=by rw[aP (by omega) (by omega)];rfl
   obtain⟨r,ixx⟩:=hm.at xm (k:=i) (by simpa using hi);rw[Z3]at ixx;have hty:=aa.dC bT _ (Q6 hi);have hp1:=gW hty.1;obtain⟨xi,hxi⟩:∃y,b.list[i].1++b.list[i].2.cells=y:=⟨_,rfl⟩;have hxl:xi.length=8:=by rw[<-hxi,J5,hty.1.len,Ex.bp];rfl
   have hsc:bH xi=true:=by rw[<-hxi];exact jk hty.1.sc (Ex.eU hty.2.wf)
   have hc0:cut xi 0 1=So [.s (eD b.list[i])]:=by rw[<-hxi,hp1];rfl
   have ldx:=ei dc np cK (st:=s) (r:=r) hxl;rw[hxi]at ixx;obtain⟨s3,y1,y2,y3,y4⟩:=bJ (s:=s) (z:=oe) (cells:=xi) (by rw[hxl];rfl) hsc;have sto3:=aC dc cK (s.aj oe) s.next 0 xi hxl;have rn3:rd s3 s.next 0 1=So [.s (eD b.list[i])]:=by rw[ai y2,hc0]
   have bo:=λ(t:Tr AV) (h:ah t (.tmp 24)=.s (eD b.list[i]))=>ef (S:=Tw c N) (t:=t) (st:=s3) kg (x:=.tmp 24) (cs:=[.s (eD b.list[i])]) (by rw[h];rfl) rfl
   have iO3:=iO.keep y3 (by simp) (by simp);obtain⟨v',g',s4,w1,w2,w3,w4⟩:=iO3.iW kg (new:=[.s (eD b.list[i])]) rfl rfl (by omega) (by omega);have gl:∀x∈g.toList,rx+1<=x:=λx hx=>(iO.jd x (by simpa using hx)).1
   simp[i16,i17,i18,e3,e4,ixx,ldx,aB,qp,sto3,y1,rn3,bo,w1];refine⟨_,_,⟨rfl,rfl⟩,by simp[i0],by simp[i2],by simp[i4],by simp[i16],by simp[i17],by simp,g',?_,by simp,ey (iK.trans y3) w3 (by simp) (λx hx=>by have:=gl x hx;omega),w3.ce (y3.ce ix il il (by simp) (by simp)) (by omega) (by omega) (by simp) (λhh=>by have:=gl _ hh;omega),by have:=w3.next;omega⟩;have e5:b.names[i]'(by rw[bnl];omega)=eD b.list[i]:=by simp[aa.names]
   have e6:b.names.take (i+1)=b.names.take i++[eD b.list[i]]:=by rw[<-e5,List.take_append_getElem]
   rw[e6,List.map_append];simpa using w2)
  (by rintro t s ⟨i0,i2,i4,i16,i17,i18,iI⟩;simp[i17,i18];exact⟨_,_,⟨rfl,rfl⟩,by simp[i0],by simp[i2],by simp[i4],by simpa using iI⟩)
 clear hL;obtain⟨v7,hv7⟩:∃v,ab t2 7=v:=⟨_,rfl⟩;rw[hv7]at zI;obtain⟨g,zO,zZ,zK,zx,zl⟩:=zI;rw[show b.list.length=b.names.length by omega,List.take_length]at zO;have hN7:=aaP (br:=br) zO (λh=>zZ (by omega)) (by omega);obtain⟨al2,hb2⟩:=(h.new zK).bo;obtain⟨s3,rs,rm,w1,w2,w3,w4,w5,w6,w7⟩:=PH (c:=c) (st:=s2) (v:=v7) (l:=b.names) (br:=br) (n:=n) (sv:=sv) hN7 (by omega) (by omega) ⟨al2,hb2⟩ (by have:=zK.next;omega) hsv (N:=N) (by omega);have n2:=zK.next;have n3:=w5.next;have cx3:=w5.ce zx zl zl (by simp;omega) (by simp;omega);obtain⟨iv,hiv⟩:∃v,fu (List.range' n b.names.length)=v:=⟨_,rfl⟩;rw[hiv]at w1;have ims:=tP mQ (z:=1) (λ_=>rfl) (List.range' n b.names.length);have hiv':eA 1 ((List.range' n b.names.length).flatMap mQ) (List.range' n b.names.length).length=iv:=hiv;rw[hiv']at ims;have hX:∀y∈[C.mr,br]++F,y<s2.next:=λy hy=>by
  simp only[Q2,Q3,Q1]at hy;rcases hy with rfl|rfl|hy
  ·omega
  ·omega
  ·have:=hF y hy;omega
 have S3:=Fl (s0:=s2) ((h.new zK).sc.keep w5 (by simp) (by simp)) hX w3 w6 w7 w4;obtain⟨al3,w2⟩:=w2;rw[bnl]at w2;have C3:Cx C s3 m F br (n+b.len) (.p rs 0) (aZ (λ_=>No) b.names n::fs):=⟨(h.new zK).mx.set hbr.1 hb2 hbr.2.2 w5,⟨al3,w2⟩,S3,hbr.1,by omega,hbr.2.2⟩;have kv3:Kv [C.mr,br] F F st s3:=((Kv.of zK).step w5 (by simp) (by simp));obtain⟨fs2,hfs⟩:∃l,aZ (λ_=>No) b.names n::fs=l:=⟨_,rfl⟩;have hlk:aZ (aS fs) b.names n=aS fs2:=by rw[<-hfs,<-Gm]
 have hfl:fs2.length=fs.length+1:=by rw[<-hfs];rfl
 rw[hfs]at C3;obtain⟨sv2,hsv2⟩:∃v,AV.p rs 0=v:=⟨_,rfl⟩;rw[hsv2]at C3;obtain⟨s4,u1,u2,u3,u4⟩:=bJ (s:=s3) (z:=[.i .i64 0,.i .i64 0,.s [],.sn,.sn,.sn,.sn,.i .i64 0]) (cells:=qT .sn) rfl rfl;have sto:=aC oL o9 (s3.aj [.i .i64 0,.i .i64 0,.s [],.sn,.sn,.sn,.sn,.i .i64 0]) s3.next 0 (qT .sn) rfl;obtain⟨ro,hro⟩:∃r,s3.next=r:=⟨_,rfl⟩;rw[hro]at u1 u2 sto u4;have hF3:=C3.mx.gB;have G0:ug C s3 F br sv2 fs2 ro b n m s4 .sn 0 :=
  ⟨[],[],m,F,⟨C3.new u3,Kv.of u3,u2,⟨by omega,u4⟩,λhh=>by have:=hF3 _ hh;omega,.nil _ _ _ _⟩,rfl,rfl,by rw[aa.mI];rfl,by rw[aa.mI];exact Q5 _,by rw[aa.mI];exact Q5 _⟩
 have ecl:qT .sn=[.i .i64 5,.i .i64 0,.s [],.sn,.sn,.sn,.sn,.i .i64 0]:=rfl;rw[ecl]at u1 sto;have cx4:=u3.ce cx3 (by omega) (by omega) (by simp) (by simp);have rk4:=(rk cx4).1;have lx3:rx<s3.next:=by omega
 have nrx:rx∉[C.mr,br]++F:=λhh=>by
  simp only[Q2,Q3,Q1]at hh;rcases hh with hh|hh|hh
  ·omega
  ·omega
  ·have:=hF _ hh;omega
 simp[z2,z4,hv7,w1,ve.build,aB,zw,hro,sto,u1,rk4,ln,ba];generalize hL:aQ _ _ _ _=L;obtain⟨t5,s5,rfl,y0,y2,y4,y11,yI⟩:=cD hL 2 b.list.length
  (λi t s'=>ab t 0=.p C.mr 0/\ab t 2=.p br 0/\ab t 4=.p rx 0/\ab t 10=iv/\ab t 11=.p ro 0/\ab t 33=bv/\ab t 34=.i .i64 (b.list.length:Int)/\ab t 35=.i .i64 (i:Int)/\KM C s3 F br sv2 fs2 ro b n m s' i)
  (λt s'=>ab t 0=.p C.mr 0/\ab t 2=.p br 0/\ab t 4=.p rx 0/\ab t 11=.p ro 0/\KM C s3 F br sv2 fs2 ro b n m s' b.list.length) (by omega)
  ⟨by simp[z0],by simp[z2],by simp[z4],by simp,by simp,by simp,by simp,by simp,.sn,G0⟩
  (by
   rintro i t s hi ⟨i0,i2,i4,i10,i11,i33,i34,i35,v,L,cs,mi,Fi,g1,g2,g3,g4,g5,g6⟩;have e3:(i:Int)<(b.list.length:Int):=by omega
   have e4:wr .i64 ((i:Int)+1)=((i+1:Nat):Int):=by rw[aP (by omega) (by omega)];rfl
   obtain⟨r,ixx⟩:=hm.at xm (k:=i) (by simpa using hi);rw[Z3]at ixx;have hmem:=Q6 hi;have hty:=aa.dC bT _ hmem;have hp1:=gW hty.1;have hok:=hx.bind _ hmem;have hBi:=hB _ hmem;have hszx:b.list[i].2.size<=b.size:=aa.dX hmem;obtain⟨bn,hbn⟩:∃y,fo (b.list[i].1.headD .un)=y:=⟨_,rfl⟩;rw[hbn]at hp1;rw[hp1]at ixx;obtain⟨x,hxe⟩:∃y,b.list[i].2=y:=⟨_,rfl⟩;rw[hxe]at ixx hok hBi hszx;obtain⟨xi,hxi⟩:∃y,[.s bn]++x.cells=y:=⟨_,rfl⟩;have hxl:xi.length=8:=by rw[<-hxi,J5,Ex.bp];rfl
   have hsc:bH xi=true:=by rw[<-hxi];exact jk rfl (Ex.eU hok.ty.wf)
   have ldx:=ei dc np cK (st:=s) (r:=r) hxl;rw[hxi]at ixx;obtain⟨sA,y1,y2,y3,y4⟩:=bJ (s:=s) (z:=oe) (cells:=xi) (by rw[hxl];rfl) hsc;have sto3:=aC dc cK (s.aj oe) s.next 0 xi hxl;obtain⟨r',ixs⟩:=ims.at Fu (k:=i) (by simp;omega);rw[Z3,List.getElem_range',Nat.one_mul]at ixs;obtain⟨sl,hsl⟩:∃k,n+i=k:=⟨_,rfl⟩;rw[hsl]at ixs;have lds:loadAt π 3 sA (.rp (mQ sl++r'))=So (.i .i64 (sl:Int)):=by rw[wN dW zR];rfl
   obtain⟨sB,u1,u2,u3,u4⟩:=bJ (s:=sA) (z:=[.i .i64 0,.i .i64 0,.sn,.i .i64 0]) (cells:=[.i .i64 0,.i .i64 0,.sn,iN sl]) rfl rfl;have sto4:=aC vq vQ (sA.aj [.i .i64 0,.i .i64 0,.sn,.i .i64 0]) sA.next 0 [.i .i64 0,.i .i64 0,.sn,iN sl] rfl;obtain⟨rb,hrb⟩:∃r,s.next=r:=⟨_,rfl⟩;obtain⟨r14,hr14⟩:∃r,sA.next=r:=⟨_,rfl⟩;rw[hrb]at y1 y2 sto3 y4;rw[hr14]at u1 u2 sto4 u4 y4;have gF:=g1.cx.mx.gB;have glt:=g1.lt;have nA:=y3.next;have H:jH C s3 F br (n+b.len) sv2 fs2 sB mi Fi rb r14 xi [.i .i64 0,.i .i64 0,.sn,iN sl] :=
    ⟨(g1.cx.new y3).new u3,(g1.kv.step y3 (by simp) (by simp)).step u3 (by simp) (by simp),u3.ce y2 (by omega) (by omega) (by simp) (by simp),u2,⟨by omega,by omega,λhh=>by have:=gF _ hh;omega⟩,⟨by omega,by omega,λhh=>by have:=gF _ hh;omega⟩,by omega⟩
   have kB:Kp [] [] s sB:=y3.trans u3;have nB:=kB.next;simp only[dJ]at u1 sto4;have rkB:∀{S:St},S.ce rb=So (xi,rb,[rb])->rd S rb 1 1=So [.i .i64 x.kind]/\loadAt π 47 S (.p rb 1)=So (.ag x.cells):=λ{S} hS=>by
    constructor
    ·rw[ai hS,<-hxi];cases x;rfl
    ·rw[cu cM gT,aX,ai hS,<-hxi];show uA (cut x.cells 0 7)=_
     rw[eV,<-x.bp,gY];rfl
   have rk1:=(rkB H.cb).1;by_cases h4:x.kind=4
   ·obtain⟨k',nm',num',ps',b',a',l'⟩:=x;simp only[Ex.kind]at h4 rk1;subst h4;rw[<-hxi]at H;obtain⟨sb,sc,sd,se,q1,q2,q3,q4,q5,q6,q7⟩:=adV (c:=c) (N:=N) C3 H hok (by omega) (by omega);rw[hxi]at q6;obtain⟨A1,A2,A3,A4⟩:=q5 sB (.inl rfl);obtain⟨B1,B2,B3,B4⟩:=q5 sb (.inr (.inl rfl));obtain⟨D1,D2,D3,D4⟩:=q5 sc (.inr (.inr rfl));obtain⟨rr,hrr⟩:∃l,gQ (ax C.Gf) (aS fs2) a'=l:=⟨_,rfl⟩;rw[hrr]at q1 q4 q6;have hva:qi C b.list[i].2 fs2 mi=((3,ax C.Kf nm',rr),mi):=by
     rw[hxe,<-hrr,qi,Go.Ev.valOf];simp
    obtain⟨v',sf,sg,f1,f2,f3,f4,f5⟩:=ug.fin (d:=⟨3,ax C.Kf nm',rr,sl⟩) C3 hx.bind g1 g2 g3 g4 g5 g6 hi (by omega) q6 ((Kv.of kB).step q7 (λy hy=>.inr (by simp at hy;omega)) (λy hy=>.inr (by simp at hy;omega))) (od _ _ _) (.inl rfl) hva hsl.symm;have ld:=(show loadAt π 147 se (.p r14 0)=So (.ag [.i .i64 3,iN (ax C.Kf nm'),bz rr,iN sl]) by rw[cu vq xX,vQ,ai q6.c14];rfl);have t1:=bN dW eY sb r14 0 (.i .i64 3) rfl;have t2:=bN dW eY sc r14 1 (iN (ax C.Kf nm')) rfl;have t3:=bN wI xD sd r14 2 (bz rr) (tN rr);have t4:=bN DQ FG sf ro 5 v' f3;have z3:((3:Nat):Int)=3:=rfl;have bo:=λ(t:Tr AV) (h:ah t (.tmp 104)=.ag [.i .i64 3,iN (ax C.Kf nm'),bz rr,iN sl])=>ef (S:=Tw c N) (t:=t) (st:=se) Az (x:=.tmp 104) (cs:=[.i .i64 3,iN (ax C.Kf nm'),bz rr,iN sl]) (by rw[h];exact gh _) rfl
    simp only[dJ,z3]at q3 f2 A2 B2 D2 ld t2 bo;simp[i10,i33,i34,i35,e3,ixx,ldx,aB,qp,sto3,y1,hrb,ixs,lds,Ap.build,uc,sto4,u1,hr14,rk1,aY];rw[ft (fl:=[(3,14),(3,16),(6,14),(6,16),(7,14),(7,16)])]
    rotate_left
    ·kernel_rfl
    ·intro RR hRR;simp[i0,i2,A1,A2,A3,A4,q1,t1,q2,t2,q3,t3,q4]at hRR;subst hRR;simp only[Q8,Q9,J1,J9];exact⟨cZ rfl rfl rfl (s:=sb) (by simp[B1]),cZ rfl rfl rfl (s:=sc) (by simp[D1]),cZ rfl rfl rfl (s:=sb) (by simp[B3]),cZ rfl rfl rfl (s:=sc) (by simp[D3]),cZ rfl rfl rfl (s:=sb) (by simp[B2]),cZ rfl rfl rfl (s:=sc) (by simp[D2])⟩
    simp[i0,i2,i11,i35,e4,A1,A2,A3,A4,q1,t1,q2,t2,q3,t3,q4,f1,ld,bo,f2,t4,f4];exact⟨_,_,⟨rfl,rfl⟩,by simp[i0],by simp[i2],by simp[i4],by simp[i10],by simp[i11],by simp[i33],by simp[i34],by simp,v',f5⟩
   by_cases h23:x.kind=2\/x.kind=3
   ·obtain⟨sb,sc,sd,q1,q2,q3,q4,q5,q6,q7,q8⟩:=adU (c:=c) (N:=N) (x:=x) C3 H (by omega);obtain⟨rr,hrr⟩:∃l,atR (ax C.Gf) (aS fs2) x=l:=⟨_,rfl⟩;rw[hrr]at q1 q2 q6;have hva:qi C b.list[i].2 fs2 mi=((4,0,[rr]),mi):=by
     rw[hxe,<-hrr];clear hrr q1 q2 q6 rkB rk1 ldx hok hBi hsc hxi hszx;obtain⟨k',nm',num',ps',b',a',l'⟩:=x;simp only[Ex.kind]at h4 h23;rw[qi,Go.Ev.valOf];simp[h4,h23]
    have nF:sb.next∉Fi:=λhh=>by have:=gF _ hh;omega
    obtain⟨v',sf,sg,f1,f2,f3,f4,f5⟩:=ug.fin (d:=⟨4,0,[rr],sl⟩) C3 hx.bind g1 g2 g3 g4 g5 g6 hi (by omega) q4 ((Kv.of kB).step q5 (λy hy=>.inr (by simp at hy;omega)) (λy hy=>.inr (by simp at hy;omega))) rfl (.inr ⟨sb.next,rfl,by simpa using q6,rfl,by omega,q8,nF⟩) hva hsl.symm;have ld:=(show loadAt π 147 sd (.p r14 0)=So (.ag [.i .i64 4,.i .i64 0,.sl sb.next 0 1 2 (So 1),iN sl]) by rw[cu vq xX,vQ,ai q4.c14];rfl);have t1:=bN dW eY (sb.aj (bI rr)) r14 0 (.i .i64 4) rfl;have t3:=bN wI xD sc r14 2 (.sl sb.next 0 1 2 (So 1)) rfl;have t4:=bN DQ FG sf ro 5 v' f3;have z4:((4:Nat):Int)=4:=rfl;have z0':((0:Nat):Int)=0:=rfl;have bo1:=λ(t:Tr AV) (h:ah t (.tmp 85)=.ag (bI rr))=>ef (S:=Tw c N) (t:=t) (st:=sb) yq (x:=.tmp 85) (cs:=bI rr) (by rw[h];exact gh _) rfl
    have bo:=λ(t:Tr AV) (h:ah t (.tmp 104)=.ag [.i .i64 4,.i .i64 0,.sl sb.next 0 1 2 (So 1),iN sl])=>ef (S:=Tw c N) (t:=t) (st:=sd) Az (x:=.tmp 104) (cs:=[.i .i64 4,.i .i64 0,.sl sb.next 0 1 2 (So 1),iN sl]) (by rw[h];exact gh _) rfl
    have lx:=(rkB H.cb).2;simp only[dJ,z4,z0']at f2 ld bo;rcases h23 with h23|h23<;>rw[h23]at rk1
    ·simp[i0,i2,i10,i11,i33,i34,i35,e3,ixx,ldx,aB,qp,sto3,y1,hrb,ixs,lds,Ap.build,uc,sto4,u1,hr14,rk1,lx,q1,bo1,t1,q2,t3,q3,e4,f1,ld,bo,f2,t4,f4];exact⟨_,_,⟨rfl,rfl⟩,by simp[i0],by simp[i2],by simp[i4],by simp[i10],by simp[i11],by simp[i33],by simp[i34],by simp,v',f5⟩
    ·simp[i0,i2,i10,i11,i33,i34,i35,e3,ixx,ldx,aB,qp,sto3,y1,hrb,ixs,lds,Ap.build,uc,sto4,u1,hr14,rk1,lx,q1,bo1,t1,q2,t3,q3,e4,f1,ld,bo,f2,t4,f4];exact⟨_,_,⟨rfl,rfl⟩,by simp[i0],by simp[i2],by simp[i4],by simp[i10],by simp[i11],by simp[i33],by simp[i34],by simp,v',f5⟩
   have h2:¬x.kind=2:=λe=>h23 (.inl e)
   have h3:¬x.kind=3:=λe=>h23 (.inr e)
   have szI:=Oh x;have hdr:=aa.ye hi;have gb5:=g5;have gb6:=g6;rw[hdr]at gb5 gb6;simp only[aa.size,hxe]at gb5 gb6;by_cases h5:x.kind=5
   ·rw[h5]at rk1;obtain⟨sb,sc,sd,se,F2,q1,q2,q3,q4,q5,q6,q7,q8,q9⟩:=SO (c:=c) (N:=N) (x:=x) (kd:=2) hBi C3 H (by omega) (by omega) (by omega) (by omega) (by omega);obtain⟨R1,hR1⟩:∃l,fZ C x mi=l:=⟨_,rfl⟩;obtain⟨rr,hrr⟩:∃l,(FF C.Gf x).map (eJ (ax C.Gf) (aS fs2))=l:=⟨_,rfl⟩;rw[hR1,hrr]at q2;rw[hR1]at q3 q5;rw[hrr]at q4 q5;have hva:qi C b.list[i].2 fs2 mi=((2,R1.1,rr),R1.2):=by
     rw[hxe,qi,FO hok (λe=>h23 (.inl e)) (λe=>h23 (.inr e)) h4,hR1,hrr];simp[h5]
    have kk:Kv [C.mr,br] Fi F2 s se:=((((Kv.of kB).step q6 (λy hy=>.inr (by simp at hy;omega)) (λy hy=>.inr (by simp at hy;omega))).call q7 (by simp)).step q8 (λy hy=>.inr (by simp at hy;omega)) (λy hy=>.inr (by simp at hy;omega)));obtain⟨v',sf,sg,f1,f2,f3,f4,f5⟩:=ug.fin (d:=⟨2,R1.1,rr,sl⟩) C3 hx.bind g1 g2 g3 g4 g5 g6 hi (by omega) q5 kk (od _ _ _) (.inl rfl) hva hsl.symm;have ld:=(show loadAt π 147 se (.p r14 0)=So (.ag [.i .i64 2,iN R1.1,bz rr,iN sl]) by rw[cu vq xX,vQ,ai q5.c14];rfl);have t1:=bN dW eY sB r14 0 (.i .i64 2) rfl;have t2:=bN dW eY sc r14 1 (iN R1.1) rfl;have t3:=bN wI xD sd r14 2 (bz rr) (tN rr);have t4:=bN DQ FG sf ro 5 v' f3;have z3:((2:Nat):Int)=2:=rfl;have bo:=λ(t:Tr AV) (h:ah t (.tmp 104)=.ag [.i .i64 2,iN R1.1,bz rr,iN sl])=>ef (S:=Tw c N) (t:=t) (st:=se) Az (x:=.tmp 104) (cs:=[.i .i64 2,iN R1.1,bz rr,iN sl]) (by rw[h];exact gh _) rfl
    have lx:=(rkB q9).2;simp only[dJ,z3]at q1 q2 q3 f2 ld t2 bo;simp[i0,i2,i10,i11,i33,i34,i35,e3,ixx,ldx,aB,qp,sto3,y1,hrb,ixs,lds,Ap.build,uc,sto4,u1,hr14,rk1,t1,q1,lx,q2,t2,q3,t3,q4,e4,f1,ld,bo,f2,t4,f4];exact⟨_,_,⟨rfl,rfl⟩,by simp[i0],by simp[i2],by simp[i4],by simp[i10],by simp[i11],by simp[i33],by simp[i34],by simp,v',f5⟩
   ·obtain⟨sb,sc,sd,se,F2,q1,q2,q3,q4,q5,q6,q7,q8,q9⟩:=SO (c:=c) (N:=N) (x:=x) (kd:=1) hBi C3 H (by omega) (by omega) (by omega) (by omega) (by omega);obtain⟨R1,hR1⟩:∃l,fZ C x mi=l:=⟨_,rfl⟩;obtain⟨rr,hrr⟩:∃l,(FF C.Gf x).map (eJ (ax C.Gf) (aS fs2))=l:=⟨_,rfl⟩;rw[hR1,hrr]at q2;rw[hR1]at q3 q5;rw[hrr]at q4 q5;have hva:qi C b.list[i].2 fs2 mi=((1,R1.1,rr),R1.2):=by
     rw[hxe,qi,FO hok (λe=>h23 (.inl e)) (λe=>h23 (.inr e)) h4,hR1,hrr];simp[h5]
    have kk:Kv [C.mr,br] Fi F2 s se:=((((Kv.of kB).step q6 (λy hy=>.inr (by simp at hy;omega)) (λy hy=>.inr (by simp at hy;omega))).call q7 (by simp)).step q8 (λy hy=>.inr (by simp at hy;omega)) (λy hy=>.inr (by simp at hy;omega)));obtain⟨v',sf,sg,f1,f2,f3,f4,f5⟩:=ug.fin (d:=⟨1,R1.1,rr,sl⟩) C3 hx.bind g1 g2 g3 g4 g5 g6 hi (by omega) q5 kk (od _ _ _) (.inl rfl) hva hsl.symm;have ld:=(show loadAt π 147 se (.p r14 0)=So (.ag [.i .i64 1,iN R1.1,bz rr,iN sl]) by rw[cu vq xX,vQ,ai q5.c14];rfl);have t1:=bN dW eY sB r14 0 (.i .i64 1) rfl;have t2:=bN dW eY sc r14 1 (iN R1.1) rfl;have t3:=bN wI xD sd r14 2 (bz rr) (tN rr);have t4:=bN DQ FG sf ro 5 v' f3;have z3:((1:Nat):Int)=1:=rfl;have bo:=λ(t:Tr AV) (h:ah t (.tmp 104)=.ag [.i .i64 1,iN R1.1,bz rr,iN sl])=>ef (S:=Tw c N) (t:=t) (st:=se) Az (x:=.tmp 104) (cs:=[.i .i64 1,iN R1.1,bz rr,iN sl]) (by rw[h];exact gh _) rfl
    have lx:=(rkB q9).2;simp only[dJ,z3]at q1 q2 q3 f2 ld t2 bo;simp[i0,i2,i10,i11,i33,i34,i35,e3,ixx,ldx,aB,qp,sto3,y1,hrb,ixs,lds,Ap.build,uc,sto4,u1,hr14,rk1,h4,h2,h3,h5,t1,q1,lx,q2,t2,q3,t3,q4,e4,f1,ld,bo,f2,t4,f4];exact⟨_,_,⟨rfl,rfl⟩,by simp[i0],by simp[i2],by simp[i4],by simp[i10],by simp[i11],by simp[i33],by simp[i34],by simp,v',f5⟩)
  (by rintro t s ⟨i0,i2,i4,i10,i11,i33,i34,i35,iI⟩;simp[i34,i35];exact⟨_,_,⟨rfl,rfl⟩,by simp[i0],by simp[i2],by simp[i4],by simp[i11],iI⟩)
 clear hL;obtain⟨v,L,cs,mi,Fi,k1,k2,k3,k4,k5,k6⟩:=yI;obtain⟨f,hf⟩:=aa.De b;rw[hf]at k4 k5 k6;simp only[vz,iw,Z5]at k4;simp only[aa.size]at k5 k6;cases a with
 |nil f=>simp[aa.len]at a1
 |cons p0 x0 a=>
 have ox0:=hx.arg (p0,x0) (by simp[aa.list]);have z0:x0.size<=aa.size (.cons p0 x0 a):=by simp only[aa.size];omega
 obtain⟨ar,ix⟩:=Ii aT;have lda:=λst:St=>ei cM gT aX (st:=st) (r:=ar) x0.bp
 have kv5:=k1.kv;have cx5:=kv5.ce cx3 lx3 lx3 nrx nrx;have ra5:=(rk cx5).2;obtain⟨av,hav⟩:∃v,aa.slice (.cons p0 x0 a) 7=v:=⟨_,rfl⟩;rw[hav]at ra5 ix;have bdx:Bd x0 mi (n+b.len) fs2.length N:=⟨by omega,by omega,by omega,by omega,by omega⟩;obtain⟨s6,F6,q1,q2,q3⟩:=hI (p0,x0) (by simp[aa.list]) C s5 mi Fi br (n+b.len) sv2 fs2 N k1.cx bdx;simp only at q1 q2 q3;obtain⟨⟨g1,g2,g3⟩,g4⟩:=mU (F:=FF C.Gf) (G:=ax C.Gf) (K:=ax C.Kf) x0 ox0.wd (aS fs2) (n+b.len) mi;obtain⟨R0,hR0⟩:∃R,cg C x0 fs2 (n+b.len) mi=R:=⟨_,rfl⟩;have hR0':cU (FF C.Gf) (ax C.Gf) (ax C.Kf) strF x0 (aS fs2) (n+b.len) mi=R0:=hR0;rw[hR0']at g1 g2 g3 g4;rw[hR0]at q1 q2;have eR:cg C (.mk 7 nm num ps b (.cons p0 x0 a) l) fs n m=eh {k:=5,als:=L,next:=R0.1} R0.2.1 R0.2.2:=by unfold cg;rw[cU];simp[gj,hlk,k4,hR0']
 rw[eR];simp only[eh];have lt5:=k1.lt;have k1':=k1.call C3 q2 q3;have lt6:=k1'.lt;have als6:gS s6 (ro+1) F6 cs L:=k2.mono λr l q1 q2 q4 q5 q6=>by
  have no:r∉[C.mr,br]++Fi:=λhh=>by
   simp only[Q2,Q3,Q1]at hh;rcases hh with hh|hh|hh
   ·omega
   ·omega
   ·exact q6 hh
  exact⟨q3.ce q1 q5 q5 no no,Q0 q5 q3.next,q3.out q5 q6⟩
 obtain⟨s7,p1,p2,p3,p4,p5⟩:=Cx.QJ C3 k1'.kv k1'.cx k1'.ceo k1'.lt.1 k1'.nf 7 (iN R0.1) (by simp[qT]) rfl;have e7:aW (qT v) 7 [iN R0.1]=[.i .i64 5,.i .i64 0,.s [],.sn,.sn,v,.sn,iN R0.1]:=rfl;rw[e7]at p2;have als7:gS s7 (ro+1) F6 cs L:=als6.mono λr l q1 q2 q4 q5 q6=>⟨p5.ce q1 q5 q5 (by simp;omega) (by simp;omega),Q0 q5 p5.next,q6⟩
 have ow7:=k1'.ow.keep p5 (λy hy=>.inl (by simp at hy;omega)) (λy hy=>.inl (by simp at hy;omega));rw[<-k3]at ow7;have st7:=bN dW eY s6 ro 7 (iN R0.1) rfl;have ld7:loadAt π 87 s7 (.p ro 0)=So (.ag [.i .i64 5,.i .i64 0,.s [],.sn,.sn,v,.sn,iN R0.1]):=by rw[cu oL wh,o9,ai p2];rfl
 obtain⟨s8,F',Y,d1,d2,d3,d4⟩:=abq (c:=c) (N:=N) (o:={k:=5,als:=L,next:=R0.1}) (A:=[.i .i64 5,.i .i64 0,.s [],.sn,.sn]) (B:=[.sn,iN R0.1]) p3.mx rfl rfl ow7 als7 rfl (by omega) (by omega) (by omega);refine⟨s8,?_,F',sv2,d2,p3.uL d3 (λhh=>?_),(kv3.call p4 (λy hy=>.inl hy)).call d3 (λy hy=>?_)⟩
 ·simp at d1;simp only[dJ]at q1 p1 st7 ld7 d1;simp[y0,y2,y4,y11,ra5,ix,lda,q1,st7,p1,ld7,d1,bf,aO,dJ]
 ·rcases Q1.1 hh with hh|hh
  ·omega
  ·have:=d4 _ hh;omega
 ·rcases Q1.1 hy with hy|hy
  ·left;simp[hy]
  ·right;have:=d4 _ hy;omega
theorem aaW(hx:eQ (.mk 7 nm num ps b a l))(hI:∀p∈a.list,jF c p.2)(hB:∀p∈b.list,pk c p.2)(hs:Ex.size (.mk 7 nm num ps b a l)<=1000000)(hb:Bd (.mk 7 nm num ps b a l) m n fs.length (N+2)):uw c C (.mk 7 nm num ps b a l) st m F br n sv fs N:=by intro h0 t s rx r5 r7 h hC;have⟨s1,q1,F',sv1,q2⟩:=Ze (c:=c) (N:=N) hx hI hB hs hC hb;refine⟨s1,F',sv1,?_,q2⟩;unfold qL;simp[lX,aw,f100,h.t0,h.t4,h.t5,h.rk,h.ld,h.yP,q1]
theorem Wx:∀x:Ex,eQ x->x.size<=1000000->jF c x/\jF c (fE x):=by
 refine Ex.ind λk nm num ps b a l hb ha hl hx hz=>?_
 have za:∀p∈a.list,p.2.size<=1000000:=λp hp=>by have:=aa.dX hp;simp only[Ex.size]at hz;omega
 have zb:∀p∈b.list,p.2.size<=1000000:=λp hp=>by have:=aa.dX hp;simp only[Ex.size]at hz;omega
 have zl:∀p∈l.list,p.2.size<=1000000:=λp hp=>by have:=aa.dX hp;simp only[Ex.size]at hz;omega
 have A:∀p∈a.list,jF c p.2:=λp hp=>(ha p hp (hx.arg p hp) (za p hp)).1
 have L:∀p∈l.list,jF c p.2:=λp hp=>(hl p hp (hx.alt p hp).1 (zl p hp)).1
 have B:∀p∈b.list,pk c p.2:=λp hp=>GQ (hx.bind p hp) (hb p hp (hx.bind p hp) (zb p hp)).2
 have I:k=5->jF c (fE (.mk k nm num ps b a l)):=λh5=>by
  subst h5;cases a with
  |nil f=>have:=hx.wd.1.1 (.inl rfl);simp[aa.len]at this
  |cons p x a=>
   have e:fE (.mk 5 nm num ps b (.cons p x a) l)=x:=by simp[fE]
   rw[e];exact A (p,x) (by simp[aa.list])
 suffices h:jF c (.mk k nm num ps b a l) by
  refine⟨h,?_⟩;by_cases h5:k=5
  ·exact I h5
  ·have e:fE (.mk k nm num ps b a l)=.mk k nm num ps b a l:=by simp[fE,h5]
   rw[e];exact h
 refine WA hx λC st m F br n sv fs N h bd=>?_
 by_cases h5:k=5
 ·subst h5;exact aaV hx (GQ hx (I rfl)) hz bd
 by_cases h4:k=4
 ·subst h4;exact aaU hx hz bd
 by_cases h6:k=6
 ·subst h6;exact aaR hx A hz bd
 by_cases h7:k=7
 ·subst h7;exact aaW hx A B hz ⟨bd.ops,bd.bos,bd.n,bd.d,by have:=bd.N;omega⟩
 by_cases h8:k=8
 ·subst h8;exact aaT hx A L hz bd
 by_cases h9:k=9
 ·subst h9;exact aaX hx A hz bd
 exact aaS ⟨h4,h5,h6,h7,h8,h9⟩ bd
theorem UM(x:Ex)(hx:eQ x)(hz:x.size<=1000000):pk c x:=GQ hx (Wx x hx hz).2
set_option maxHeartbeats 8000000
structure mZ(C:dT)(lo:Nat)(s:St)(mi:Ms)(Fi:List Nat)(rb r4 r5:Nat)(bc z4 l:List AV):Prop where
 mx:dU C s mi Fi
 cb:s.ce rb=So (bc,rb,[rb])
 c4:s.ce r4=So (z4,r4,[r4])
 c5:s.ce r5=So (l,r5,[r5])
 lb:lo<=rb/\rb<s.next/\rb∉Fi
 l4:lo<=r4/\r4<s.next/\r4∉Fi
 l5:lo<=r5/\r5<s.next/\r5∉Fi
 lo:C.lo<=lo
 ne:rb<r4/\r4<r5
def sL(s:St)(lo:Nat)(F:List Nat)(cs:List AV)(d:fW):Prop:=cs=d.cells\/∃r,cs=[.s d.nm,iN d.k,iN d.n,.sl r 0 1 2 (So 1)]/\s.ce r=So (d.rs.flatMap bI,r,[r])/\d.rs.length=1/\lo<=r/\r<s.next/\r∉F
section
variable {r4 r5:Nat}{z4 l:List AV}
theorem mZ.kp(h:mZ C lo s mi Fi rb r4 r5 bc z4 l)(k:Kp [] [] s s'):mZ C lo s' mi Fi rb r4 r5 bc z4 l :=
 ⟨h.mx.new k,k.ce h.cb h.lb.2.1 h.lb.2.1 (by simp) (by simp),k.ce h.c4 h.l4.2.1 h.l4.2.1 (by simp) (by simp),k.ce h.c5 h.l5.2.1 h.l5.2.1 (by simp) (by simp),⟨h.lb.1,Q0 h.lb.2.1 k.next,h.lb.2.2⟩,⟨h.l4.1,Q0 h.l4.2.1 k.next,h.l4.2.2⟩,⟨h.l5.1,Q0 h.l5.2.1 k.next,h.l5.2.2⟩,h.lo,h.ne⟩
theorem mZ.set(h:mZ C lo s mi Fi rb r4 r5 bc z4 l)(i:Nat)(v:AV)(hi:i+1<=l.length)(hv:bR v=Tt):∃s',wt s r5 i [v]=So s'/\mZ C lo s' mi Fi rb r4 r5 bc z4 (aW l i [v])/\Kp [r5] [r5] s s':=by have hw:=c9 h.c5 i [v] hi (by simp_all);have k:Kp [r5] [r5] s (s.aG r5 (aW l i [v]) r5):=.aG (by simp) (by simp);have ne:=h.ne;have:=h.lo;have:=h.l5;exact⟨_,hw,⟨h.mx.set (by omega) h.c5 h.l5.2.2 k,k.ce h.cb h.lb.2.1 h.lb.2.1 (by grind) (by grind),k.ce h.c4 h.l4.2.1 h.l4.2.1 (by grind) (by grind),dA _ _ _,⟨h.lb.1,Q0 h.lb.2.1 k.next,h.lb.2.2⟩,⟨h.l4.1,Q0 h.l4.2.1 k.next,h.l4.2.2⟩,⟨h.l5.1,Q0 h.l5.2.1 k.next,h.l5.2.2⟩,h.lo,h.ne⟩,k⟩
theorem mZ.call(h:mZ C lo s mi Fi rb r4 r5 bc z4 l)(hc:dU C s' m2 F2)(k:Kv [C.mr] Fi F2 s s'):mZ C lo s' m2 F2 rb r4 r5 bc z4 l:=by
 have hl:=h.mx.lt;have hlo:=h.lo;have lb:=h.lb;have l4:=h.l4;have l5:=h.l5;have no:∀y,lo<=y->y∉Fi->y∉[C.mr]++Fi:=λy hy hn hh=>by grind
 exact⟨hc,k.ce h.cb lb.2.1 lb.2.1 (no _ lb.1 lb.2.2) (no _ lb.1 lb.2.2),k.ce h.c4 l4.2.1 l4.2.1 (no _ l4.1 l4.2.2) (no _ l4.1 l4.2.2),k.ce h.c5 l5.2.1 l5.2.1 (no _ l5.1 l5.2.2) (no _ l5.1 l5.2.2),⟨lb.1,Q0 lb.2.1 k.next,k.out lb.2.1 lb.2.2⟩,⟨l4.1,Q0 l4.2.1 k.next,k.out l4.2.1 l4.2.2⟩,⟨l5.1,Q0 l5.2.1 k.next,k.out l5.2.1 l5.2.2⟩,h.lo,h.ne⟩
theorem mZ.out(h:mZ C lo s mi Fi rb r4 r5 bc z4 l)(hz:z4.length=4)(hl:l.length=4)(hs:bH l=Tt):∃s',wt s r4 0 l=So s'/\rd s' r4 0 4=So l/\rd s r5 0 4=So l/\dU C s' mi Fi/\Kp [r4] [r4] s s':=by have hw:=c9 h.c4 0 l (by omega) hs;rw[pY,nU (by omega)]at hw;have k:Kp [r4] [r4] s (s.aG r4 l r4):=.aG (by simp) (by simp);have hlo:=h.lo;have h4:=h.l4;exact⟨_,hw,by rw[ai (dA _ _ _),eV,<-hl,gY],by rw[ai h.c5,eV,<-hl,gY],h.mx.set (by omega) h.c4 h.l4.2.2 k,k⟩
abbrev so(C:dT)(x:Ex)(m:Ms):(Nat×Nat×List Rf)×Ms:=Go.Ev.valOf (FF C.Gf) (ax C.Gf) (ax C.Kf) (λ_=>No) x (gN (FF C.Gf) (ax C.Gf) (ax C.Kf) strF x) (cU (FF C.Gf) (ax C.Gf) (ax C.Kf) strF x) m
def TD(C:dT)(st:St)(F:List Nat)(bn:ae)(V:(Nat×Nat×List Rf)×Ms)(v:AV)(s':St):Prop:=∃F' rv,v=.ag [.s bn,iN V.1.1,iN V.1.2.1,rv]/\dU C s' V.2 F'/\Kv [C.mr] F F' st s'/\sL s' st.next F' [.s bn,iN V.1.1,iN V.1.2.1,rv] ⟨bn,V.1.1,V.1.2.1,if V.1.1=3\/V.1.1=4 then V.1.2.2 else[]⟩
theorem XV(hx:eQ x)(hz:x.size<=1000000)(hB:pk c x)(h:dU C st m F)(b1:m.ops.length+x.size<=4000000)(b2:m.bos.length+2*x.size<=4000000)(hN:10*x.size+20000000000000000010<=N):
  ∃v s',(Tw c N).call 20 [.p C.mr 0,.ag ([.s bn]++x.cells)] st=So (v,s')/\TD C st F bn (so C x m) v s':=by
 cases N
 ·omega
 rename_i N;rw[dV rfl func20 rfl (J8 rfl)];unfold aJ;have szI:=Oh x;have hF:=h.gB;have hmr:=h.lt;obtain⟨xi,hxi⟩:∃y,[.s bn]++x.cells=y:=⟨_,rfl⟩;have hxl:xi.length=8:=by rw[<-hxi,J5,Ex.bp];rfl
 rw[hxi];have kx:=Kp.aj (st:=st) [] [] xi;have cx:=bq (st:=st) xi;have nx:(st.aj xi).next=st.next+1:=rfl;obtain⟨s1,hs1⟩:∃t,st.aj xi=t:=⟨_,rfl⟩;rw[hs1]at kx cx nx;have k2:=Kp.aj (st:=s1) [] [] [.s [],.i .i64 0,.i .i64 0,.sn];have c2:=bq (st:=s1) [.s [],.i .i64 0,.i .i64 0,.sn];have n2:(s1.aj [.s [],.i .i64 0,.i .i64 0,.sn]).next=s1.next+1:=rfl;obtain⟨s2,hs2⟩:∃t,s1.aj [.s [],.i .i64 0,.i .i64 0,.sn]=t:=⟨_,rfl⟩;rw[hs2]at k2 c2 n2;obtain⟨s3,u1,u2,u3,u4⟩:=bJ (s:=s2) (z:=[.s [],.i .i64 0,.i .i64 0,.sn]) (cells:=[.s bn,.i .i64 0,.i .i64 0,.sn]) rfl rfl;have sto:=aC lI lN (s2.aj [.s [],.i .i64 0,.i .i64 0,.sn]) s2.next 0 [.s bn,.i .i64 0,.i .i64 0,.sn] rfl;have cb2:=k2.ce cx (by omega) (by omega) (by simp) (by simp);obtain⟨rb,hrb⟩:∃r,st.next=r:=⟨_,rfl⟩;obtain⟨r4,hr4⟩:∃r,s1.next=r:=⟨_,rfl⟩;obtain⟨r5,hr5⟩:∃r,s2.next=r:=⟨_,rfl⟩;rw[hrb]at cx cb2;rw[hr4]at c2;rw[hr5]at u1 u2 sto u4;have H:mZ C st.next s3 m F rb r4 r5 xi [.s [],.i .i64 0,.i .i64 0,.sn] [.s bn,.i .i64 0,.i .i64 0,.sn] :=
  ⟨((h.new kx).new k2).new u3,u3.ce cb2 (by omega) (by omega) (by simp) (by simp),u3.ce c2 (by omega) (by omega) (by simp) (by simp),u2,⟨by omega,by omega,λhh=>by have:=hF _ hh;omega⟩,⟨by omega,by omega,λhh=>by have:=hF _ hh;omega⟩,⟨by omega,by omega,λhh=>by have:=hF _ hh;omega⟩,hmr.2,by omega,by omega⟩
 have K3:Kp [] [] st s3:=(kx.trans k2).trans u3;have rn:rd s2 rb 0 1=So [.s bn]:=by rw[ai cb2,<-hxi];rfl
 have rkB:∀{S:St},S.ce rb=So (xi,rb,[rb])->rd S rb 1 1=So [.i .i64 x.kind]/\loadAt π 47 S (.p rb 1)=So (.ag x.cells):=λ{S} hS=>by
  constructor
  ·rw[ai hS,<-hxi];cases x;rfl
  ·rw[cu cM gT,aX,ai hS,<-hxi];show uA (cut x.cells 0 7)=_
   rw[eV,<-x.bp,gY];rfl
 have rk1:=(rkB H.cb).1;have fin:∀{S S':St}{F2:List Nat},Kv [C.mr] F F2 st S->Kp [r4] [r4] S S'->Kv [C.mr] F F2 st S':=λ{S S' F2} a b=>a.step b (λy hy=>.inr (by simp at hy;omega)) (λy hy=>.inr (by simp at hy;omega))
 by_cases h4:x.kind=4
 ·obtain⟨k',nm',num',ps',b',a',l'⟩:=x;simp only[Ex.kind]at h4 rk1;subst h4;have aT:aa.Ty a' 0:=by
   have:=hx.ty;simp only[Ex.Ty]at this;exact this.2.2.2.1
  have alz:=aa.cq a';rw[aa.aF]at alz;have hsz:a'.size+1<=Ex.size (.mk 4 nm' num' ps' b' a' l'):=by simp only[Ex.size];omega
  have key:∀{S:St}{l:List AV},mZ C st.next S m F rb r4 r5 xi [.s [],.i .i64 0,.i .i64 0,.sn] l->rd S C.mr 6 1=So [.m C.kr]/\lookup π 66 S (.m C.kr) (.s nm') false=So (iN (ax C.Kf nm'))/\rd S rb 2 1=So [.s nm']/\rd S rb 6 1=So [a'.slice 7]:=λ{S l} hh=>by have hm:=hh.mx.ic (X:=[]) (by simp);obtain⟨d0,d1,d2,d3,d4,hA⟩:=hm.at';have lk:=hm.hK.get nR nm';rw[vA]at lk;exact⟨by rw[hA.rd];rfl,lk,by rw[ai hh.cb,<-hxi];rfl,by rw[ai hh.cb,<-hxi];rfl⟩
  obtain⟨sb,q1,q2⟩:=Fc (c:=c) (bv:=.pn) (fs:=[]) (l:=a'.list.map (·.2)) (wm aT) (λx hx=>by obtain⟨y,hy,rfl⟩:=J6.1 hx;exact(aa.dC aT y hy).2) (by rw[Q4];omega) (H.mx.ic (X:=[]) (by simp)) (.inl ⟨rfl,rfl⟩) (N:=N) (by simp;omega);have er:(a'.list.map (·.2)).map (atR (ax C.Gf) (aS []))=gQ (ax C.Gf) (λ_=>No) a':=by rw[Z4,OX];rfl
  rw[er]at q1;obtain⟨rr,hrr⟩:∃l,gQ (ax C.Gf) (λ_=>No) a'=l:=⟨_,rfl⟩;rw[hrr]at q1;have H1:=H.kp q2;obtain⟨sc,a1,H2,a3⟩:=H1.set 1 (.i .i64 3) (by simp) rfl;obtain⟨sd,d1,H3,d3⟩:=H2.set 2 (iN (ax C.Kf nm')) (by simp[aW]) rfl;obtain⟨sf,f1,H4,f3⟩:=H3.set 3 (bz rr) (by simp[aW]) (od _ _ _);obtain⟨se,e1,e2,e3,e4,e5⟩:=H4.out rfl rfl (by simp[aW,iN,bz,od]);have hva:so C (.mk 4 nm' num' ps' b' a' l') m=((3,ax C.Kf nm',rr),m):=by rw[so,Go.Ev.valOf,<-hrr];simp
  obtain⟨A1,A2,A3,A4⟩:=key H;obtain⟨B1,B2,B3,B4⟩:=key H1;obtain⟨D1,D2,D3,D4⟩:=key H2;have o1:aW (aW (aW [.s bn,.i .i64 0,.i .i64 0,.sn] 1 [.i .i64 3]) 2 [iN (ax C.Kf nm')]) 3 [bz rr]=[.s bn,.i .i64 3,iN (ax C.Kf nm'),bz rr]:=rfl;rw[o1]at e1 e2 e3;have t1:=bN dW eY sb r5 1 (.i .i64 3) rfl;have t2:=bN dW eY sc r5 2 (iN (ax C.Kf nm')) rfl;have t4:=bN wI xD sd r5 3 (bz rr) (tN rr);have t3:=aC lI lN sf r4 0 [.s bn,.i .i64 3,iN (ax C.Kf nm'),bz rr] rfl;have ld:=(show loadAt π 42 sf (.p r5 0)=So (.ag [.s bn,.i .i64 3,iN (ax C.Kf nm'),bz rr]) by rw[cu lI sT,lN,e3];rfl);have ld2:=(show loadAt π 42 se (.p r4 0)=So (.ag [.s bn,.i .i64 3,iN (ax C.Kf nm'),bz rr]) by rw[cu lI sT,lN,e2];rfl);have kk:Kv [C.mr] F F st sf:=((((Kv.of K3).step q2 (by simp) (by simp)).step a3 (λy hy=>.inr (by simp at hy;omega)) (λy hy=>.inr (by simp at hy;omega))).step d3 (λy hy=>.inr (by simp at hy;omega)) (λy hy=>.inr (by simp at hy;omega))).step f3 (λy hy=>.inr (by simp at hy;omega)) (λy hy=>.inr (by simp at hy;omega));refine⟨.ag [.s bn,.i .i64 3,iN (ax C.Kf nm'),bz rr],se,?_,?_⟩
  ·simp only[dJ]at d1 e1 t2 t3 ld ld2 A2 B2 D2;simp[f20,hs1,aB,sy,hs2,hr4,hr5,hrb,rn,Aq.build,sto,u1,rk1,aY];rw[ft (fl:=[(3,13),(3,15),(6,13),(6,15),(7,13),(7,15)])]
   rotate_left
   ·kernel_rfl
   ·intro RR hRR;simp[A1,A2,A3,A4,q1,t1,a1,t2,d1,t4,f1]at hRR;subst hRR;simp only[Q8,Q9,J1,J9];exact⟨cZ rfl rfl rfl (s:=sb) (by simp[B1]),cZ rfl rfl rfl (s:=sc) (by simp[D1]),cZ rfl rfl rfl (s:=sb) (by simp[B3]),cZ rfl rfl rfl (s:=sc) (by simp[D3]),cZ rfl rfl rfl (s:=sb) (by simp[B2]),cZ rfl rfl rfl (s:=sc) (by simp[D2])⟩
   simp[A1,A2,A3,A4,q1,t1,a1,t2,d1,t4,f1,ld,t3,e1,bf,yT,aO,ld2,dJ]
  ·rw[hva];exact⟨F,bz rr,rfl,e4,fin kk e5,.inl rfl⟩
 by_cases h23:x.kind=2\/x.kind=3
 ·obtain⟨sb,q1,q2⟩:=Fb (c:=c) (bv:=.pn) (fs:=[]) (x:=x) (H.mx.ic (X:=[]) (by simp)) (.inl ⟨rfl,rfl⟩) (N:=N) (by simp;omega);rw[OX]at q1;obtain⟨rr,hrr⟩:∃l,atR (ax C.Gf) (λ_=>No) x=l:=⟨_,rfl⟩;rw[hrr]at q1;have k2:=Kp.aj (st:=sb) [] [] (bI rr);have c2:=bq (st:=sb) (bI rr);have n2':(sb.aj (bI rr)).next=sb.next+1:=rfl;have H1:=(H.kp q2).kp k2;obtain⟨sc,a1,H2,a3⟩:=H1.set 1 (.i .i64 4) (by simp) rfl;obtain⟨sd,d1,H3,d3⟩:=H2.set 3 (.sl sb.next 0 1 2 (So 1)) (by simp[aW]) rfl;obtain⟨se,e1,e2,e3,e4,e5⟩:=H3.out rfl rfl (by simp[aW]);have nq:=q2.next;have na:=a3.next;have nd:=d3.next;have ne5:=e5.next;have cR:=e5.ce (d3.ce (a3.ce c2 (by omega) (by omega) (by simp;omega) (by simp;omega)) (by omega) (by omega) (by simp;omega) (by simp;omega)) (by omega) (by omega) (by simp;omega) (by simp;omega);have hva:so C x m=((4,0,[rr]),m):=by
   rw[<-hrr];clear hrr q1 rkB rk1 hxi hz hx hB szI b1 b2 hN;obtain⟨k',nm',num',ps',b',a',l'⟩:=x;simp only[Ex.kind]at h4 h23;rw[so,Go.Ev.valOf];simp[h4,h23]
  have o1:aW (aW [AV.s bn,AV.i .i64 0,AV.i .i64 0,AV.sn] 1 [AV.i .i64 4]) 3 [AV.sl sb.next 0 1 2 (So 1)]=[AV.s bn,AV.i .i64 4,AV.i .i64 0,AV.sl sb.next 0 1 2 (So 1)]:=rfl;rw[o1]at e1 e2 e3;have t1:=bN dW eY (sb.aj (bI rr)) r5 1 (.i .i64 4) rfl;have t2:=bN wI xD sc r5 3 (.sl sb.next 0 1 2 (So 1)) rfl;have t3:=aC lI lN sd r4 0 [.s bn,.i .i64 4,.i .i64 0,.sl sb.next 0 1 2 (So 1)] rfl;have bo1:=λ(t:Tr AV) (h:ah t (.tmp 45)=.ag (bI rr))=>ef (S:=Tw c N) (t:=t) (st:=sb) yq (x:=.tmp 45) (cs:=bI rr) (by rw[h];exact gh _) rfl
  have ld:=(show loadAt π 42 sd (.p r5 0)=So (.ag [.s bn,.i .i64 4,.i .i64 0,.sl sb.next 0 1 2 (So 1)]) by rw[cu lI sT,lN,e3];rfl);have ld2:=(show loadAt π 42 se (.p r4 0)=So (.ag [.s bn,.i .i64 4,.i .i64 0,.sl sb.next 0 1 2 (So 1)]) by rw[cu lI sT,lN,e2];rfl);have lx:=(rkB H.cb).2;have kk:Kv [C.mr] F F st sd:=((((Kv.of K3).step q2 (by simp) (by simp)).step k2 (by simp) (by simp)).step a3 (λy hy=>.inr (by simp at hy;omega)) (λy hy=>.inr (by simp at hy;omega))).step d3 (λy hy=>.inr (by simp at hy;omega)) (λy hy=>.inr (by simp at hy;omega));refine⟨.ag [.s bn,.i .i64 4,.i .i64 0,.sl sb.next 0 1 2 (So 1)],se,?_,?_⟩
  ·rcases h23 with h23|h23<;>rw[h23]at rk1
   ·simp[f20,hs1,aB,sy,hs2,hr4,hr5,hrb,rn,Aq.build,sto,u1,rk1,lx,q1,bo1,t1,a1,t2,d1,ld,t3,e1,bf,yT,aO,ld2]
   ·simp[f20,hs1,aB,sy,hs2,hr4,hr5,hrb,rn,Aq.build,sto,u1,rk1,lx,q1,bo1,t1,a1,t2,d1,ld,t3,e1,bf,yT,aO,ld2]
  ·rw[hva];exact⟨F,.sl sb.next 0 1 2 (So 1),rfl,e4,fin kk e5,.inr ⟨sb.next,rfl,by simpa using cR,rfl,by omega,by omega,λhh=>by have:=hF _ hh;omega⟩⟩
 have h2:¬x.kind=2:=λe=>h23 (.inl e)
 have h3:¬x.kind=3:=λe=>h23 (.inr e)
 by_cases h5:x.kind=5
 ·rw[h5]at rk1;obtain⟨sb,a1,H1,a3⟩:=H.set 1 (.i .i64 2) (by simp) rfl;obtain⟨sc,F2,v,q1,-,-,q4,q5⟩:=hB C sb m F N H1.mx hz (by omega) (by omega) (by omega);obtain⟨R1,hR1⟩:∃l,fZ C x m=l:=⟨_,rfl⟩;rw[hR1]at q1 q4;have H2:=H1.call q4 q5;obtain⟨sd,d1,H3,d3⟩:=H2.set 2 (iN R1.1) (by simp[aW]) rfl;obtain⟨se,e1,e2,e3,e4,e5⟩:=H3.out rfl rfl (by simp[aW,iN]);have hva:so C x m=((2,R1.1,(FF C.Gf x).map (eJ (ax C.Gf) (λ_=>No))),R1.2):=by
   rw[so,FO hx h2 h3 h4,hR1];simp[h5]
  have lx:=(rkB H1.cb).2;have o1:aW (aW [.s bn,.i .i64 0,.i .i64 0,.sn] 1 [.i .i64 2]) 2 [iN R1.1]=[.s bn,.i .i64 2,iN R1.1,.sn]:=rfl;rw[o1]at e1 e2 e3;have t1:=bN dW eY s3 r5 1 (.i .i64 2) rfl;have t2:=bN dW eY sc r5 2 (iN R1.1) rfl;have t3:=aC lI lN sd r4 0 [.s bn,.i .i64 2,iN R1.1,.sn] rfl;have ld:=(show loadAt π 42 sd (.p r5 0)=So (.ag [.s bn,.i .i64 2,iN R1.1,.sn]) by rw[cu lI sT,lN,e3];rfl);have ld2:=(show loadAt π 42 se (.p r4 0)=So (.ag [.s bn,.i .i64 2,iN R1.1,.sn]) by rw[cu lI sT,lN,e2];rfl);have kk:Kv [C.mr] F F2 st sd:=(((Kv.of K3).step a3 (λy hy=>.inr (by simp at hy;omega)) (λy hy=>.inr (by simp at hy;omega))).call q5 (λy hy=>.inl hy)).step d3 (λy hy=>.inr (by simp at hy;omega)) (λy hy=>.inr (by simp at hy;omega));refine⟨.ag [.s bn,.i .i64 2,iN R1.1,.sn],se,?_,?_⟩
  ·simp only[dJ]at q1 d1 e1 t2 t3 ld ld2;simp[f20,hs1,aB,sy,hs2,hr4,hr5,hrb,rn,Aq.build,sto,u1,rk1,t1,a1,lx,q1,t2,d1,ld,t3,e1,bf,yT,aO,ld2,dJ]
  ·rw[hva];exact⟨F2,.sn,rfl,e4,fin kk e5,.inl rfl⟩
 ·skip
  obtain⟨sb,a1,H1,a3⟩:=H.set 1 (.i .i64 1) (by simp) rfl;obtain⟨sc,F2,v,q1,-,-,q4,q5⟩:=hB C sb m F N H1.mx hz (by omega) (by omega) (by omega);obtain⟨R1,hR1⟩:∃l,fZ C x m=l:=⟨_,rfl⟩;rw[hR1]at q1 q4;have H2:=H1.call q4 q5;obtain⟨sd,d1,H3,d3⟩:=H2.set 2 (iN R1.1) (by simp[aW]) rfl;obtain⟨se,e1,e2,e3,e4,e5⟩:=H3.out rfl rfl (by simp[aW,iN]);have hva:so C x m=((1,R1.1,(FF C.Gf x).map (eJ (ax C.Gf) (λ_=>No))),R1.2):=by rw[so,FO hx h2 h3 h4,hR1];simp[h5]
  have lx:=(rkB H1.cb).2;have o1:aW (aW [.s bn,.i .i64 0,.i .i64 0,.sn] 1 [.i .i64 1]) 2 [iN R1.1]=[.s bn,.i .i64 1,iN R1.1,.sn]:=rfl;rw[o1]at e1 e2 e3;have t1:=bN dW eY s3 r5 1 (.i .i64 1) rfl;have t2:=bN dW eY sc r5 2 (iN R1.1) rfl;have t3:=aC lI lN sd r4 0 [.s bn,.i .i64 1,iN R1.1,.sn] rfl;have ld:=(show loadAt π 42 sd (.p r5 0)=So (.ag [.s bn,.i .i64 1,iN R1.1,.sn]) by rw[cu lI sT,lN,e3];rfl);have ld2:=(show loadAt π 42 se (.p r4 0)=So (.ag [.s bn,.i .i64 1,iN R1.1,.sn]) by rw[cu lI sT,lN,e2];rfl);have kk:Kv [C.mr] F F2 st sd:=(((Kv.of K3).step a3 (λy hy=>.inr (by simp at hy;omega)) (λy hy=>.inr (by simp at hy;omega))).call q5 (λy hy=>.inl hy)).step d3 (λy hy=>.inr (by simp at hy;omega)) (λy hy=>.inr (by simp at hy;omega));refine⟨.ag [.s bn,.i .i64 1,iN R1.1,.sn],se,?_,?_⟩
  ·simp only[dJ]at q1 d1 e1 t2 t3 ld ld2;simp[f20,hs1,aB,sy,hs2,hr4,hr5,hrb,rn,Aq.build,sto,u1,rk1,h4,h2,h3,h5,t1,a1,lx,q1,t2,d1,ld,t3,e1,bf,yT,aO,ld2,dJ]
  ·rw[hva];exact⟨F2,.sn,rfl,e4,fin kk e5,.inl rfl⟩
end
theorem ad7:eC π 68=true:=by kernel_rfl
theorem UC(a b:Nat):cI π 68 [(1,.m a),(2,.m b)]=λst=>So (.ag [.sn,.sn,.sn,.sn,.i .i64 0,.m a,.m b],st):=by kernel_rfl
theorem UY{S:Self}{x y:Operand}{a b:Nat}(hx:ah t x=.m a)(hy:ah t y=.m b):cO (.build 68 #[(1,x),(2,y)]) π S t st=So (.ag [.sn,.sn,.sn,.sn,.i .i64 0,.m a,.m b],st):=by
 show @Bool.rec (λ_=>aD) No (cI π 68 [(1,ah t x),(2,ah t y)] st) (eC π 68)=_
 rw[ad7,hx,hy,UC]
theorem Qk{f:aK}{l:List ae}{s:ae}:upd (fQ (aZ f l 0)) s (iN l.length)=fQ (aZ f (l++[s]) 0):=by rw[PS,Gn,Z9]
def jW(s:St)(lo:Nat)(F:List Nat):List AV->List fW->Prop
 |cs,[]=>cs=[]
 |cs,d::L=>∃a rest,cs=a++rest/\sL s lo F a d/\jW s lo F rest L
theorem sL.mono{d:fW}(hlo:lo'<=lo)(h:sL s lo F cs d)(hk:∀r,s.ce r=So (d.rs.flatMap bI,r,[r])->(d.rs.flatMap bI).length=2->lo<=r->r<s.next->r∉F->s'.ce r=So (d.rs.flatMap bI,r,[r])/\r<s'.next/\r∉F'):sL s' lo' F' cs d:=by
 rcases h with h|⟨r,h1,h2,h3,h4,h5,h6⟩
 ·exact .inl h
 ·have⟨k1,k2,k3⟩:=hk r h2 (by rw[AQ (z:=2) bI (λ_=>rfl) d.rs,h3]) h4 h5 h6;exact .inr ⟨r,h1,k1,h3,by omega,k2,k3⟩
theorem jW.mono(hk:∀r l,s.ce r=So (l,r,[r])->l.length=2->lo<=r->r<s.next->r∉F->s'.ce r=So (l,r,[r])/\r<s'.next/\r∉F'):∀{L:List fW}{cs:List AV},jW s lo F cs L->jW s' lo F' cs L
 |[],_,h=>h
 |d::_,_,⟨a,rest,h1,h2,h3⟩=>⟨a,rest,h1,h2.mono (Q5 _) λr q1 q2=>hk r _ q1 q2,jW.mono hk h3⟩
theorem jW.snoc{a:List AV}{d:fW}(hd:sL s lo F a d):∀{L:List fW}{cs:List AV},jW s lo F cs L->jW s lo F (cs++a) (L++[d])
 |[],cs,h=>by rw[show cs=[] from h];exact⟨a,[],by simp,hd,rfl⟩
 |e::L,_,⟨b,rest,h1,h2,h3⟩=>⟨b,rest++a,by rw[h1,K8],h2,jW.snoc hd h3⟩
theorem sL.fz{d:fW}(h:sL s lo F cs d)(hq:∀y,lo<=y->q y=Tt):da q s cs d.cells:=by
 rcases h with rfl|⟨r,rfl,h2,h3,h4,h5,h6⟩
 ·exact .pure d.pure
 ·have e:d.cells=[.s d.nm,iN d.k,iN d.n,.rs (d.rs.flatMap bI) 1 2]:=by
   unfold fW.cells bz eA;rw[h3];rfl
  rw[e];exact .cons (.pure rfl) (.cons (.pure rfl) (.cons (.pure rfl) (.cons (.slice h2 (by rw[AQ (z:=2) bI (λ_=>rfl) d.rs,h3]) (hq r h4) (.pure (mj _ (λ_=>rfl) _)) (by omega)) .nil)))
theorem jW.fz{q:Nat->Bool}:∀{L:List fW}{cs:List AV},jW s lo F cs L->(∀y,lo<=y->q y=Tt)->da q s cs (L.flatMap fW.cells)
 |[],cs,h,_=>by rw[show cs=[] from h];exact .nil
 |d::L,_,⟨a,rest,h1,h2,h3⟩,hq=>by subst h1;exact Ic (h2.fz hq) (jW.fz h3 hq)
theorem gD.BJ(h:dU C s m F)(hv:bR v=Tt):∃s',rd s C.mr 3 1=So [C.gv]/\wt s C.mr 3 [v]=So s'/\rd s' C.mr 3 1=So [v]/\dU {C with gv:=v} s' m F/\Kp [C.mr] [C.mr] s s':=by
 have⟨⟨l1,l2,l3⟩,l4⟩:=h.lt;have hF:=h.gB;obtain⟨ov,bv,go,gb,al,h1,h2,h3,rfl,h5⟩:=h.row;have hw:=c9 h1 3 [v] (by simp) (by simp[hv]);have ew:aW [C.cv,ov,bv,C.gv,.i .i64 0,.m C.gr,.m C.kr] 3 [v]=[C.cv,ov,bv,v,.i .i64 0,.m C.gr,.m C.kr]:=rfl;rw[ew]at hw;have k:Kp [C.mr] [C.mr] s (s.aG C.mr [C.cv,ov,bv,v,.i .i64 0,.m C.gr,.m C.kr] C.mr):=.aG (by simp) (by simp);have c':=dA C.mr [C.cv,ov,bv,v,.i .i64 0,.m C.gr,.m C.kr] C.mr (st:=s);refine⟨_,by rw[ai h1];rfl,hw,by rw[ai c'];rfl,⟨⟨ov,bv,go,gb,_,c',?_,?_,rfl,h5⟩,h.hG.keep k (by omega) (by simp;exact h.ne.1),h.hK.keep k (by omega) (by simp;exact h.ne.2),⟨⟨l1,l2,l3⟩,Z7 l4 k.next⟩,h.ne⟩,k⟩
 ·exact h2.keep k (by simp;omega) (by simp;omega)
 ·exact h3.keep k (by simp;omega) (by simp;omega)
abbrev AW(C:dT)(b:aa)(m:Ms):List fW×Ms:=jf (FF C.Gf) (ax C.Gf) (ax C.Kf) strF b m
def zB(C:dT)(s0:St)(b:aa)(s:St)(gv:AV)(i:Nat):Prop:=∃L cs mi Fi,dU {C with gv:=gv} s mi Fi/\hZ s C.lo 4 gv i cs Fi/\jW s C.lo Fi cs L/\L.length=i/\AW C b ⟨[],[]⟩=(L++(AW C (b.dr i) mi).1,(AW C (b.dr i) mi).2)/\mi.ops.length+(b.dr i).size<=b.size/\mi.bos.length+2*(b.dr i).size<=2*b.size/\Kv [C.mr] [] Fi s0 s
section
variable {gv:AV}
theorem zB.step(hlo:C.lo=s0.next)(hok:∀p∈b.list,eQ p.2)(hB:∀p∈b.list,pk c p.2)(hz:b.size<=1000000)(h:zB C s0 b s gv i)(hi:i<b.list.length)(bn:ae)(hbn:eD b.list[i]=bn)(k1:Kp [] [] s s')(hN:10*b.size+20000000000000000010<=N):
  ∃cells s1 gv' s2 s3,(Tw c N).call 20 [.p C.mr 0,.ag ([.s bn]++b.list[i].2.cells)] s'=So (.ag cells,s1)/\cells.length=4/\rd s' C.mr 3 1=So [gv]/\rd s1 C.mr 3 1=So [gv]/\fD π (s1.aj cells) [33,33] [gv,.sl s1.next 0 1 4 (So 1)]=So (gv',s2)/\gv'.cells=So [gv']/\wt s2 C.mr 3 [gv']=So s3/\zB C s0 b s3 gv' (i+1):=by
 have⟨L,cs,mi,Fi,g1,g2,g3,g4,g5,g6,g7,g8⟩:=h;have hmem:=Q6 hi;have hdr:=aa.ye hi;rw[hdr]at g5 g6 g7;have hokx:=hok _ hmem;have hBx:=hB _ hmem;have hszx:b.list[i].2.size<=b.size:=aa.dX hmem;have hlen:b.list.length<=b.size:=by rw[<-aa.aF];exact b.cq
 have hbn':eD (b.list[i].1,b.list[i].2)=bn:=hbn;have hw:=hokx.wd;have gw:=FP (F:=FF C.Gf) (G:=ax C.Gf) (K:=ax C.Kf) (S:=λ_=>No) (x:=b.list[i].2) (m:=mi) (lam:=gN (FF C.Gf) (ax C.Gf) (ax C.Kf) strF b.list[i].2) (ex:=cU (FF C.Gf) (ax C.Gf) (ax C.Kf) strF b.list[i].2) (λS n=>Ee _ hw S n mi) (λS n=>mU _ hw S n mi);simp only[aa.size]at g6 g7;generalize b.list[i].2=x at*;have g1':dU {C with gv:=gv} s' mi Fi:=gD.new g1 k1;have⟨v,s1,q1,F1,rv,q2,q3,q4,q5⟩:=XV (c:=c) (N:=N) (bn:=bn) hokx (by omega) hBx g1' (by omega) (by omega) (by omega);subst q2;have n1:=k1.next;have lmr:=g1.lt;have hl0:C.mr<C.lo:=lmr.1.1;have hls:C.lo<=s.next:=lmr.2;obtain⟨V,hV⟩:∃V,so {C with gv:=gv} x mi=V:=⟨_,rfl⟩;have hV':Go.Ev.valOf (FF C.Gf) (ax C.Gf) (ax C.Kf) (λ_=>No) x (gN (FF C.Gf) (ax C.Gf) (ax C.Kf) strF x) (cU (FF C.Gf) (ax C.Gf) (ax C.Kf) strF x) mi=V:=hV;rw[hV]at q1 q3 q5;rw[hV']at gw;obtain⟨d,hd⟩:∃d:fW,(⟨bn,V.1.1,V.1.2.1,if V.1.1=3\/V.1.1=4 then V.1.2.2 else[]⟩:fW)=d:=⟨_,rfl⟩;rw[hd]at q5;obtain⟨cl,hcl⟩:∃l,[AV.s bn,iN V.1.1,iN V.1.2.1,rv]=l:=⟨_,rfl⟩;rw[hcl]at q1 q5;have q4:Kv [C.mr] Fi F1 s' s1:=q4;have kT:Kv [C.mr] Fi F1 s s1:=(Kv.of k1).call q4 (λy hy=>.inl hy);have ow1:=g2.kv kT (λy hy=>by simp at hy;omega);have gl1:jW s1 C.lo F1 cs L:=g3.mono λr l a1 a2 a3 a4 a5=>by
  have no:r∉[C.mr]++Fi:=λhh=>by
   simp only[Q2,Q3,Q1]at hh;rcases hh with hh|hh
   ·omega
   ·exact a5 hh
  exact⟨kT.ce a1 a4 a4 no no,Q0 a4 kT.next,kT.out a4 a5⟩
 have n11:=q4.next;have gd1:sL s1 C.lo F1 cl d:=q5.mono (by omega) λr a1 _ _ a4 a5=>⟨a1,a4,a5⟩
 have als1:=gl1.snoc gd1;have clen:cl.length=4:=by rw[<-hcl];rfl
 have csc:bH cl=true:=by
  rcases gd1 with rfl|⟨r,rfl,-⟩
  ·exact d.sc
  ·simp[iN]
 have⟨gv',s2,G,w1,w2,w3,w4,w5⟩:=ow1.iW NV (new:=cl) csc clen (by omega) (by omega) (λy hy=>(q3.gB y hy).2);have m2:dU {C with gv:=gv} s2 V.2 F1:=gD.DZ q3 w3 (by simp) (λy hy=>.inr (w4 y hy));obtain⟨-,rg',-⟩:=gD.BJ g1' (v:=.sn) rfl;obtain⟨-,rg1,-⟩:=gD.BJ q3 (v:=.sn) rfl;obtain⟨s3,-,u1,-,u2,u3⟩:=gD.BJ m2 (v:=gv') w2.sc;have n2:=w3.next;have n3:=u3.next;have als2:jW s2 C.lo F1 (cs++cl) (L++[d]):=als1.mono λr l a1 a2 a3 a4 a5=>⟨w3.ce a1 a4 a4 (by simp) (w5 r l a1 (by omega)),Q0 a4 n2,a5⟩
 have als3:jW s3 C.lo F1 (cs++cl) (L++[d]):=als2.mono λr l a1 a2 a3 a4 a5=>⟨u3.ce a1 a4 a4 (by simp;omega) (by simp;omega),Q0 a4 n3,a5⟩
 have kS:Kv [C.mr] [] F1 s0 s3:=((g8.call kT (λy hy=>.inl hy)).step w3 (by simp) (λy hy=>.inr (by have:=(w4 y hy).1;omega))).step u3 (by simp) (by simp);refine⟨cl,s1,gv',s2,s3,q1,clen,rg',rg1,w1,w2.cells,u1,L++[d],cs++cl,V.2,F1,u2,w2.keep u3 (λy hy=>.inl (by simp at hy;omega)) (λy hy=>.inl (by simp at hy;omega)),als3,by simp[g4],?_,by omega,by omega,kS⟩;rw[g5,AW,jf];simp[hV',hbn',hd]
