/-
  What an abstract value, a row, a state say of the model's values and memory. · The abstract state against the model's memory: what each change of it asks and gives.
-/
import Derived.Test.YtbemeikjepjhoaaGreatDoorS02
namespace Go.Ev
theorem nbeq (a b:Nat):Nat.beq a b=decide (a=b):=by
 rw [Bool.eq_iff_iff]; simp [Nat.beq_eq]
theorem wayF_succ (f n:Nat):wayF (f+1) n=if n=0 then [] else if n % 2=1 then true :: wayF f (n / 2) else false :: wayF f (n / 2 - 1):=by
 have h:wayF (f+1) n=@Bool.rec (fun _=>List Bool) (@Bool.rec (fun _=>List Bool) (false :: wayF f (n / 2 - 1)) (true :: wayF f (n / 2)) (Nat.beq (n % 2) 1)) [] (Nat.beq n 0):=rfl
 rw [h,nbeq,nbeq]
 by_cases h0:n=0
 ·simp [h0]
 ·by_cases h1:n % 2=1 <;> simp [h0,h1]
theorem way_rec:∀ (f n:Nat),n≤f→∀ g m,m≤g→wayF f n=wayF g m→n=m:=by
 intro f
 induction f with
 | zero =>
  intro n hn g m hm h
  have:n=0:=by omega
  subst this
  cases g with
  | zero=>omega
  | succ g =>
   rw [wayF_succ] at h
   by_cases e:m=0
   ·exact e.symm
   ·exfalso
    rw [if_neg e,show wayF 0 0=[] from rfl] at h
    split at h <;> cases h
 | succ f ih =>
  intro n hn g m hm h
  rw [wayF_succ] at h
  by_cases e:n=0
  ·subst e
   cases g with
   | zero=>omega
   | succ g =>
    rw [wayF_succ] at h
    by_cases e:m=0
    ·exact e.symm
    ·exfalso
     rw [if_neg e,if_pos rfl] at h
     split at h <;> cases h
  ·rw [if_neg e] at h
   cases g with
   | zero =>
    exfalso
    rw [show wayF 0 m=[] from rfl] at h
    split at h <;> cases h
   | succ g =>
    rw [wayF_succ] at h
    by_cases e':m=0
    ·exfalso
     rw [if_pos e'] at h
     split at h <;> cases h
    ·rw [if_neg e'] at h
     by_cases q:n % 2=1 <;> by_cases q':m % 2=1 <;> simp only [q,q',if_true,if_false,List.cons.injEq,reduceCtorEq,false_and,true_and] at h
     ·have:=ih (n / 2) (by omega) g (m / 2) (by omega) h
      omega
     ·have:=ih (n / 2 - 1) (by omega) g (m / 2 - 1) (by omega) h
      omega
theorem way_inj {n m:Nat} (h:way n=way m):n=m:=way_rec n n (Nat.le_refl _) m m (Nat.le_refl _) h
theorem Tr.getW_setW {α:Type} (v:Option α):∀ (p q:List Bool) (t:Tr α),(Tr.setW p v t).getW q=if q=p then v else t.getW q
 | [],[],t=>by cases t <;> rfl
 | [],b :: q,t=>by cases t <;> cases b <;> simp [Tr.setW,Tr.getW] <;> (cases q <;> rfl)
 | b :: p,[],t=>by cases t <;> cases b <;> simp [Tr.setW,Tr.getW]
 | b :: p,c :: q,t=>by
  cases t with
  | lf =>
   have h:Tr.getW q (Tr.lf:Tr α)=none:=by cases q <;> rfl
   cases b <;> cases c <;> simp only [List.cons.injEq,true_and,reduceCtorEq,false_and,if_false]
   ·show Tr.getW q (Tr.setW p v .lf)=_
    rw [Tr.getW_setW v p q .lf,h]; rfl
   ·show Tr.getW q .lf=_
    rw [h]; rfl
   ·show Tr.getW q .lf=_
    rw [h]; rfl
   ·show Tr.getW q (Tr.setW p v .lf)=_
    rw [Tr.getW_setW v p q .lf,h]; rfl
  | nd o l r =>
   cases b <;> cases c <;> simp only [List.cons.injEq,true_and,reduceCtorEq,false_and,if_false]
   ·show Tr.getW q (Tr.setW p v r)=_
    rw [Tr.getW_setW v p q r]; rfl
   ·rfl
   ·rfl
   ·show Tr.getW q (Tr.setW p v l)=_
    rw [Tr.getW_setW v p q l]; rfl
theorem Tr.get_set {α:Type} (t:Tr α) (n:Nat) (v:Option α) (m:Nat):(t.set n v).get m=if m=n then v else t.get m:=by
 unfold Tr.get Tr.set
 rw [Tr.getW_setW]
 by_cases h:m=n
 ·subst h; simp
 ·have:¬ way m=way n:=fun e=>h (way_inj e)
  simp [h,this]
theorem Tr.get_lf {α:Type} (n:Nat):(Tr.lf:Tr α).get n=none:=by
 unfold Tr.get; cases way n <;> rfl
structure Blk where
 b:Nat
 d:Nat
 n:Nat
structure Env where
 imm:Nat→Option Obj
 phi:Nat→Option Blk
 top:Nat
def Env.cell (E:Env) (b o:Nat):Option Value :=
 match E.imm b with
 | some (.cells c _ _)=>c[o]?
 | _=>none
 mutual
inductive Conc (E:Env):AV→Value→Prop
 | bad (v:Value):Conc E .bad v
 | un:Conc E .un undef
 | b (x:Bool):Conc E (.b x) (.bool x)
 | i (k:IntKind) (n:Int):Conc E (.i k n) (.int k n)
 | s (bs:ByteArray):Conc E (.s (bs.data.toList.map UInt8.toNat)) (.string bs)
 | p (r o:Nat) (B:Blk) (h:E.phi r=some B):Conc E (.p r o) (.pointer (some ⟨B.b,o+B.d,none⟩))
 | pn:Conc E .pn (.pointer none)
 | gp (g:Nat):Conc E (.gp g) (.pointer (some ⟨g,0,none⟩))
 | rp (c:List AV) (b o:Nat) (vs:List Value) (h:∀ j v,vs[j]? = some v→E.cell b (o+j)=some v) (hc:ConcL E c vs):Conc E (.rp c) (.pointer (some ⟨b,o,none⟩))
 | slk (r o n z c:Nat) (a:Addr) (hn:n≤c) (h:c=0∨∃ B,E.phi r=some B∧a=⟨B.b,o+B.d,none⟩):Conc E (.sl r o n z (some c)) (.slice (some a) n c)
 | slu (r o n z c:Nat) (a:Addr) (hn:n≤c) (h:∃ B,E.phi r=some B∧(c=0∨a=⟨B.b,o+B.d,none⟩)∧o+B.d+c * z=B.n):Conc E (.sl r o n z none) (.slice (some a) n c)
 | sn:Conc E .sn (.slice none 0 0)
 | rs (c:List AV) (n z k:Nat) (b o:Nat) (vs:List Value) (hn:n≤k) (h:∀ j v,vs[j]? = some v→E.cell b (o+j)=some v) (hc:ConcL E c vs):Conc E (.rs c n z) (.slice (some ⟨b,o,none⟩) n k)
 | rs0 (c:List AV) (z:Nat) (a:Addr) (k:Nat):Conc E (.rs c 0 z) (.slice (some a) 0 k)
 | m (r:Nat) (B:Blk) (h:E.phi r=some B):Conc E (.m r) (.map (some B.b))
 | mn:Conc E .mn (.map none)
 | f (fn:Fn) (x y:List AV) (vx vy:List Value) (hy':notY fn=true) (hx:ConcL E x vx) (hy:ConcL E y vy):Conc E (.f fn x y) (.func fn vx.toArray vy.toArray)
 | yi (r:Nat) (B:Blk) (h:E.phi r=some B):Conc E (.f (.yield r) [] []) (.func (.yield B.b) #[] #[])
 | fn0:Conc E .fn0 .nilFunc
 | ifc (t:Nat) (v:AV) (u:Value) (h:Conc E v u):Conc E (.ifc t v) (.iface t u)
 | if0:Conc E .if0 .nilIface
 | ag (l:List AV) (vs:List Value) (h:ConcL E l vs):Conc E (.ag l) (.agg vs.toArray)
 | tu (l:List AV) (vs:List Value) (h:ConcL E l vs):Conc E (.tu l) (.tuple vs.toArray)
 | c (r:Nat) (B:Blk) (h:E.phi r=some B):Conc E (.c r) (.chan (some B.b))
 | cn:Conc E .cn (.chan none)
inductive ConcL (E:Env):List AV→List Value→Prop
 | nil:ConcL E [] []
 | cons (v:AV) (l:List AV) (u:Value) (us:List Value) (h:Conc E v u) (t:ConcL E l us):ConcL E (v :: l) (u :: us)
end
structure Env.le (E F:Env):Prop where
 imm:∀ b o,E.imm b=some o→F.imm b=some o
 phi:∀ r B,E.phi r=some B→F.phi r=some B
theorem Env.le.refl (E:Env):E.le E:=⟨fun _ _ h=>h,fun _ _ h=>h⟩
theorem Env.le.trans {E F G:Env} (h:E.le F) (k:F.le G):E.le G:=⟨fun b o e=>k.imm b o (h.imm b o e),fun r B e=>k.phi r B (h.phi r B e)⟩
theorem Env.le.cell {E F:Env} (h:E.le F) {b o:Nat} {v:Value} (e:E.cell b o=some v):F.cell b o=some v:=by
 unfold Env.cell at *
 cases hb:E.imm b with
 | none=>simp [hb] at e
 | some x=>rw [h.imm b x hb]; rw [hb] at e; exact e
 mutual
theorem Conc.mono {E F:Env} (h:E.le F):∀ {v:AV} {u:Value},Conc E v u→Conc F v u
 | _,_,.bad v=>.bad v
 | _,_,.un=>.un
 | _,_,.b x=>.b x
 | _,_,.i k n=>.i k n
 | _,_,.s bs=>.s bs
 | _,_,.p r o B e=>.p r o B (h.phi r B e)
 | _,_,.pn=>.pn
 | _,_,.gp g=>.gp g
 | _,_,.rp c b o vs e hc=>.rp c b o vs (fun j v hv=>h.cell (e j v hv)) (ConcL.mono h hc)
 | _,_,.slk r o n z c a hn e=>.slk r o n z c a hn (e.imp id fun ⟨B,h1,h2⟩=>⟨B,h.phi r B h1,h2⟩)
 | _,_,.slu r o n z c a hn e=>.slu r o n z c a hn (e.elim fun B hB=>⟨B,h.phi r B hB.1,hB.2⟩)
 | _,_,.sn=>.sn
 | _,_,.rs c n z k b o vs hn e hc=>.rs c n z k b o vs hn (fun j v hv=>h.cell (e j v hv)) (ConcL.mono h hc)
 | _,_,.rs0 c z a k=>.rs0 c z a k
 | _,_,.m r B e=>.m r B (h.phi r B e)
 | _,_,.mn=>.mn
 | _,_,.f fn x y vx vy hf hx hy=>.f fn x y vx vy hf (ConcL.mono h hx) (ConcL.mono h hy)
 | _,_,.yi r B e=>.yi r B (h.phi r B e)
 | _,_,.fn0=>.fn0
 | _,_,.ifc t v u e=>.ifc t v u (Conc.mono h e)
 | _,_,.if0=>.if0
 | _,_,.ag l vs e=>.ag l vs (ConcL.mono h e)
 | _,_,.tu l vs e=>.tu l vs (ConcL.mono h e)
 | _,_,.c r B e=>.c r B (h.phi r B e)
 | _,_,.cn=>.cn
theorem ConcL.mono {E F:Env} (h:E.le F):∀ {v:List AV} {u:List Value},ConcL E v u→ConcL F v u
 | _,_,.nil=>.nil
 | _,_,.cons v l u us e t=>.cons v l u us (Conc.mono h e) (ConcL.mono h t)
end
section
variable {E : Env}
theorem ConcL.length {l:List AV} {vs:List Value} (h:ConcL E l vs):l.length=vs.length:=by
 induction l generalizing vs with
 | nil=>cases h; rfl
 | cons v l ih=>cases h with | cons _ _ u us h t=>simp [ih t]
theorem ConcL.get {l:List AV} {vs:List Value} (h:ConcL E l vs):∀ (j:Nat) (v:AV),l[j]? = some v→∃ u,vs[j]? = some u∧Conc E v u:=by
 induction l generalizing vs with
 | nil=>intro j v hj; simp at hj
 | cons x l ih =>
  cases h with
  | cons _ _ u us h t =>
   intro j v hj
   cases j with
   | zero=>simp at hj; subst hj; exact ⟨u,by simp,h⟩
   | succ j=>simpa using ih t j v (by simpa using hj)
theorem ConcL.append {a b:List AV} {x y:List Value} (h:ConcL E a x) (k:ConcL E b y):ConcL E (a++b) (x++y):=by
 induction a generalizing x with
 | nil=>cases h; exact k
 | cons v l ih=>cases h with | cons _ _ u us h t=>exact .cons _ _ _ _ h (ih t)
theorem ConcL.take {a:List AV} {x:List Value} (h:ConcL E a x) (n:Nat):ConcL E (a.take n) (x.take n):=by
 induction a generalizing x n with
 | nil=>cases h; simp; exact .nil
 | cons v l ih =>
  cases h with
  | cons _ _ u us h t =>
   cases n with
   | zero=>simp; exact .nil
   | succ n=>simp; exact .cons _ _ _ _ h (ih t n)
theorem ConcL.drop {a:List AV} {x:List Value} (h:ConcL E a x) (n:Nat):ConcL E (a.drop n) (x.drop n):=by
 induction a generalizing x n with
 | nil=>cases h; simp; exact .nil
 | cons v l ih =>
  cases h with
  | cons _ _ u us h t =>
   cases n with
   | zero=>simp; exact .cons _ _ _ _ h t
   | succ n=>simpa using ih t n
end
end Go.Ev
namespace Go.Ev
noncomputable section
def St.alive (st:St) (r:Nat):Option Row :=
 match st.get r with
 | some (.ce l g)=>match st.live.get g with
  | some al=>cond (mem r al) (some (.ce l g)) none
  | none=>none
 | some (.ty _ _ _)=>none
 | x=>x
theorem St.ce_spec {st:St} {r:Nat} {l:List AV} {g:Nat} {al:List Nat} (h:st.ce r=some (l,g,al)) :
  st.alive r=some (.ce l g)∧st.live.get g=some al∧mem r al=true∧st.get r=some (.ce l g):=by
 unfold St.ce at h
 unfold St.alive
 split at h
 ·rename_i l' g' hg
  split at h
  ·rename_i al' hl
   cases hm:mem r al' with
   | false=>simp [hm] at h
   | true =>
    simp [hm] at h
    obtain ⟨rfl,rfl,rfl⟩:=h
    simp [hg,hl,hm]
  ·cases h
 ·cases h
theorem mem_iff {r:Nat} {l:List Nat}:mem r l=true↔r ∈ l:=by
 induction l with
 | nil=>simp [mem]
 | cons x l ih =>
  by_cases h:x=r
  ·simp [mem,h]
  ·have:Nat.beq x r=false:=by simp [nbeq,h]
   simp [mem,this,ih,Ne.symm h]
theorem from_suffix (r:Nat):∀ l:List Nat,∃ p,l=p++from_ r l
 | []=>⟨[],rfl⟩
 | x :: l=>by
  by_cases h:x=r
  ·exact ⟨[],by simp [from_,h]⟩
  ·obtain ⟨p,hp⟩:=from_suffix r l
   have:Nat.beq x r=false:=by simp [nbeq,h]
   exact ⟨x :: p,by simp only [from_,this,List.cons_append]; rw [← hp]⟩
theorem from_mem {r x:Nat} {l:List Nat} (h:x ∈ from_ r l):x ∈ l:=by
 obtain ⟨p,hp⟩:=from_suffix r l
 rw [hp]; exact List.mem_append_right _ h
theorem from_head {r:Nat} {l:List Nat} (h:r ∈ l):∃ t,from_ r l=r :: t:=by
 induction l with
 | nil=>simp at h
 | cons x l ih =>
  by_cases hx:x=r
  ·subst hx; exact ⟨l,by simp [from_]⟩
  ·have hb:Nat.beq x r=false:=by simp [nbeq,hx]
   obtain ⟨t,ht⟩:=ih (by simpa [Ne.symm hx] using h)
   exact ⟨t,by simp [from_,hb,ht]⟩
def EntOK (E:Env) (e:AV × AV × Nat) (m:MapEntry):Prop:=Conc E e.1 m.key∧Conc E e.2.1 m.val∧m.born=e.2.2
def ConcE (E:Env):List (AV × AV × Nat)→List MapEntry→Prop
 | [],[]=>True
 | e :: es,m :: ms=>EntOK E e m∧ConcE E es ms
 | _,_=>False
theorem ConcE.mono {E F:Env} (h:E.le F):∀ {es:List (AV × AV × Nat)} {ms:List MapEntry},ConcE E es ms→ConcE F es ms
 | [],[],_=>trivial
 | _ :: _,_ :: _,⟨⟨a,b,c⟩,t⟩=>⟨⟨a.mono h,b.mono h,c⟩,ConcE.mono h t⟩
def tget (t:Tr AV) (x:Nat):AV:=match t.get x with | some v=>v | none=>.un
def ConcT (E:Env) (nt:Nat) (t:Tr AV) (a:Array Value):Prop:=a.size=nt∧∀ x,Conc E (tget t x) (a.getD x undef)
theorem ConcT.mono {E F:Env} (h:E.le F) {nt:Nat} {t:Tr AV} {a:Array Value} (k:ConcT E nt t a):ConcT F nt t a:=⟨k.1,fun x=>(k.2 x).mono h⟩
def ConcU (E:Env):List (AV × AV)→List MapEntry→Prop
 | [],[]=>True
 | e :: es,m :: ms=>(Conc E e.1 m.key∧Conc E e.2 m.val)∧ConcU E es ms
 | _,_=>False
theorem ConcU.mono {E F:Env} (h:E.le F):∀ {es:List (AV × AV)} {ms:List MapEntry},ConcU E es ms→ConcU F es ms
 | [],[],_=>trivial
 | _ :: _,_ :: _,⟨⟨a,b⟩,t⟩=>⟨⟨a.mono h,b.mono h⟩,ConcU.mono h t⟩
def FzOk (n:Nat) (fz:Nat × Nat):Prop:=fz.1=fz.2∨n≤fz.1
theorem FzOk.not {n:Nat} {fz:Nat × Nat} (h:FzOk n fz) (off:Nat) (ho:off < n):¬ (fz.1≤off∧off < fz.2):=by
 rintro ⟨h1,h2⟩
 rcases h with h | h <;> omega
def RowOK (E:Env) (H:Array Obj) (B:Blk):Row→Prop
 | .ce l _=>∃ cs t fz,H[B.b]? = some (.cells cs t fz)∧FzOk cs.size fz∧cs.size=B.n∧B.d+l.length≤B.n ∧
   ConcL E l ((cs.toList.drop B.d).take l.length)
 | .mp es clock=>∃ ents,H[B.b]? = some (.map ents clock)∧ConcE E es ents.toList
 | .si s pos=>B.d=0∧∃ str:ByteArray,H[B.b]? = some (.stringIter str pos)∧str.data.toList.map UInt8.toNat=s
 | .mi m since seen stepped=>B.d=0∧∃ mm,H[B.b]? = some (.mapIter mm since seen.toArray stepped) ∧
   (match m with | none=>mm=none | some r=>∃ Bm,E.phi r=some Bm∧mm=some Bm.b)
 | .lp t nt ps a b=>∃ (f:FuncId) (tmps:Array Value) (d:Nat),H[B.b]? = some (.loop { state:=.ready,pending:=none,fn:=f,tmps,params:=ps.toArray,assign:=a,body:=b,defers:=d })∧ConcT E nt t tmps
 | .mu es=>∃ ents clock ms,H[B.b]? = some (.map ents clock)∧ConcU E es ms∧ents.toList.Perm ms
 | .ch cap buf=>∃ (s r:Nat) (us:List Value),H[B.b]? = some (.chan cap us.toArray false s r false)∧ConcL E buf us
 | .ty _ _ _=>False
def pow10Cells:Array Value:=((List.range 20).map fun k=>Value.int .u64 ((10 ^ k:Nat):Int)).toArray
def TyAt (E:Env) (H:Array Obj) (t r0:Nat):Bool→Prop
 | true=>∃ B,E.phi r0=some B∧(true=true→B.d=0)∧∃ (cs:Array Value) (fz:Nat × Nat),H[B.b]? = some (Obj.cells cs t fz)
 | false=>∃ (ty:TypeId) (fz:Nat × Nat),E.imm r0=some (.cells pow10Cells ty fz)
def TyKeep (H H':Array Obj):Prop:=∀ (b:Nat) (cs:Array Value) (t:TypeId) (fz:Nat × Nat),H[b]? = some (Obj.cells cs t fz)→∃ (cs':Array Value) (fz':Nat × Nat),H'[b]? = some (Obj.cells cs' t fz')
theorem TyAt.mono {E F:Env} {H H':Array Obj} (hE:E.le F) (hH:TyKeep H H') {t r0:Nat}:∀ {x:Bool},TyAt E H t r0 x→TyAt F H' t r0 x
 | true,⟨B,h1,h2,cs,fz,h3⟩=>⟨B,hE.phi _ _ h1,h2,hH _ _ _ _ h3⟩
 | false,⟨ty,fz,h⟩=>⟨ty,fz,hE.imm _ _ h⟩
theorem TyKeep.refl (H:Array Obj):TyKeep H H:=fun _ cs _ fz h=>⟨cs,fz,h⟩
theorem TyKeep.push (H:Array Obj) (o:Obj):TyKeep H (H.push o):=fun b cs t fz h=>by
 have hlt:b < H.size:=(Array.getElem?_eq_some_iff.1 h).1
 exact ⟨cs,fz,by rw [Array.getElem?_push,if_neg (Nat.ne_of_lt hlt)]; exact h⟩
theorem TyKeep.set {H:Array Obj} {b:Nat} {cs cs':Array Value} {t:TypeId} {fz fz':Nat × Nat} (hb:H[b]? = some (.cells cs t fz)):TyKeep H (H.setIfInBounds b (.cells cs' t fz')):=fun c cs1 t1 fz1 h=>by
 have hlt:b < H.size:=(Array.getElem?_eq_some_iff.1 hb).1
 by_cases e:b=c
 ·subst e; rw [hb] at h; cases h; exact ⟨cs',fz',by simp [hlt]⟩
 ·exact ⟨cs1,fz1,by rw [Array.getElem?_setIfInBounds_ne e]; exact h⟩
theorem TyKeep.setNon {H:Array Obj} {b:Nat} {o:Obj} (hb:∀ cs t fz,H[b]?≠some (.cells cs t fz)):TyKeep H (H.setIfInBounds b o):=fun c cs1 t1 fz1 h=>by
 have e:b≠c:=by rintro rfl; exact hb _ _ _ h
 exact ⟨cs1,fz1,by rw [Array.getElem?_setIfInBounds_ne e]; exact h⟩
theorem TyKeep.of_old {H H':Array Obj} (h:∀ b,b < H.size→H'[b]? = H[b]?):TyKeep H H':=fun b cs t fz hb=>⟨cs,fz,by rw [h b (Array.getElem?_eq_some_iff.1 hb).1]; exact hb⟩
theorem RowOK.mono {E F:Env} {H H':Array Obj} {B:Blk} (h:E.le F) (hb:H'[B.b]? = H[B.b]?):∀ {row:Row},RowOK E H B row→RowOK F H' B row
 | .ce _ _,⟨cs,t,fz,a,b,c,d,e⟩=>⟨cs,t,fz,hb ▸ a,b,c,d,e.mono h⟩
 | .mp _ _,⟨ents,a,b⟩=>⟨ents,hb ▸ a,b.mono h⟩
 | .si _ _,⟨z,str,a,b⟩=>⟨z,str,hb ▸ a,b⟩
 | .mi m _ _ _,⟨z,mm,a,b⟩=>⟨z,mm,hb ▸ a,by
   cases m with
   | none=>exact b
   | some r=>obtain ⟨Bm,h1,h2⟩:=b; exact ⟨Bm,h.phi r Bm h1,h2⟩⟩
 | .lp _ _ _ _ _,⟨f,tmps,d,a,b⟩=>⟨f,tmps,d,hb ▸ a,b.mono h⟩
 | .mu _,⟨ents,c,ms,a,b,d⟩=>⟨ents,c,ms,hb ▸ a,b.mono h,d⟩
 | .ch _ _,⟨s,r,us,a,b⟩=>⟨s,r,us,hb ▸ a,b.mono h⟩
 | .ty _ _ _,h=>h.elim
theorem RowOK.lt {E:Env} {H:Array Obj} {B:Blk} {row:Row} (h:RowOK E H B row):B.b < H.size:=by
 have:∃ o,H[B.b]? = some o:=by
  cases row with
  | ce=>obtain ⟨_,_,_,a,_⟩:=h; exact ⟨_,a⟩
  | mp=>obtain ⟨_,a,_⟩:=h; exact ⟨_,a⟩
  | si=>obtain ⟨_,_,a,_⟩:=h; exact ⟨_,a⟩
  | mi=>obtain ⟨_,_,a,_⟩:=h; exact ⟨_,a⟩
  | lp=>obtain ⟨_,_,_,a,_⟩:=h; exact ⟨_,a⟩
  | mu=>obtain ⟨_,_,_,a,_⟩:=h; exact ⟨_,a⟩
  | ch=>obtain ⟨_,_,_,a,_⟩:=h; exact ⟨_,a⟩
  | ty=>exact h.elim
 obtain ⟨o,ho⟩:=this
 exact (Array.getElem?_eq_some_iff.1 ho).1
def EndLe (E:Env) (st:St) (g x y:Nat):Prop :=
 ∀ lx ly Bx By,st.get x=some (.ce lx g)→st.get y=some (.ce ly g)→E.phi x=some Bx→E.phi y=some By→Bx.b=By.b→By.d+ly.length≤Bx.d+lx.length
structure Rel (E:Env) (H:Array Obj) (st:St):Prop where
 imm:∀ b o,E.imm b=some o→H[b]? = some o
 fresh:∀ r,st.next≤r→r < E.top→E.phi r=none
 freshRow:∀ r,st.next≤r→st.get r=none
 freshG:∀ g,st.next≤g→st.live.get g=none
 liveLt:∀ g al x,st.live.get g=some al→x ∈ al→x < st.next
 rows:∀ r row,st.alive r=some row→∃ B,E.phi r=some B∧RowOK E H B row
 own:∀ r row B,st.alive r=some row→E.phi r=some B→E.imm B.b=none
 sep:∀ r r' row row' B B',st.alive r=some row→st.alive r'=some row'→E.phi r=some B→E.phi r'=some B'→B.b=B'.b →
  r=r'∨∃ g l l',row = .ce l g∧row' = .ce l' g
 ends:∀ g al,st.live.get g=some al→al.Pairwise (EndLe E st g)
 tys:∀ r t r0 x,st.get r=some (.ty t r0 x)→TyAt E H t r0 x
theorem RowOK.notCells {E:Env} {H:Array Obj} {B:Blk} {row:Row} (h:RowOK E H B row) (hce:∀ l g,row≠.ce l g):∀ cs t fz,H[B.b]?≠some (.cells cs t fz):=by
 intro cs t fz e
 cases row with
 | ce l g=>exact hce _ _ rfl
 | mp=>obtain ⟨_,a,_⟩:=h; rw [a] at e; cases e
 | si=>obtain ⟨_,_,a,_⟩:=h; rw [a] at e; cases e
 | mi=>obtain ⟨_,_,a,_⟩:=h; rw [a] at e; cases e
 | lp=>obtain ⟨_,_,_,a,_⟩:=h; rw [a] at e; cases e
 | mu=>obtain ⟨_,_,_,a,_⟩:=h; rw [a] at e; cases e
 | ch=>obtain ⟨_,_,_,a,_⟩:=h; rw [a] at e; cases e
 | ty=>exact h
def Env.bind (E:Env) (r:Nat) (B:Blk):Env:=⟨E.imm,fun x=>if x=r then some B else E.phi x,E.top⟩
theorem Env.le_bind {E:Env} {r:Nat} {B:Blk} (h:E.phi r=none):E.le (E.bind r B) :=
 ⟨fun _ _ h=>h,fun x C hx=>by
  by_cases e:x=r
  ·subst e; rw [h] at hx; cases hx
  ·simp [Env.bind,e,hx]⟩
theorem Env.bind_self {E:Env} {r:Nat} {B:Blk}:(E.bind r B).phi r=some B:=by simp [Env.bind]
theorem Env.bind_ne {E:Env} {r x:Nat} {B:Blk} (h:x≠r):(E.bind r B).phi x=E.phi x:=by simp [Env.bind,h]
section
variable {E : Env} {H : Array Obj} {st : St}
theorem Rel.alive_lt (h:Rel E H st) {r:Nat} {row:Row} (ha:st.alive r=some row):r < st.next:=by
 rcases Nat.lt_or_ge r st.next with hl | hl
 ·exact hl
 ·have:=h.freshRow r hl
  simp [St.alive,this] at ha
theorem Rel.alive_get {r:Nat} {row:Row} (ha:st.alive r=some row):st.get r=some row:=by
 unfold St.alive at ha
 split at ha
 ·rename_i l g hg
  split at ha
  ·rename_i al _
   cases hm:mem r al <;> simp [hm] at ha
   rw [hg,ha]
  ·cases ha
 ·cases ha
 ·exact ha
theorem Rel.imm_lt (h:Rel E H st) {b:Nat} {o:Obj} (hb:E.imm b=some o):b < H.size :=
 (Array.getElem?_eq_some_iff.1 (h.imm b o hb)).1
theorem Rel.push (h:Rel E H st) (hn:st.next < E.top) (o:Obj) (n:Nat) (row:Row) (st':St)
  (hget:∀ r,st'.get r=if r=st.next then some row else st.get r) (hnext:st'.next=st.next+1)
  (hlive:∀ g,st'.live.get g=st.live.get g∨(g=st.next∧st'.live.get g=some [st.next]))
  (hce:∀ l g,row = .ce l g→g=st.next)
  (hrow:RowOK (E.bind st.next ⟨H.size,0,n⟩) (H.push o) ⟨H.size,0,n⟩ row) :
  Rel (E.bind st.next ⟨H.size,0,n⟩) (H.push o) st':=by
 have hle:E.le (E.bind st.next ⟨H.size,0,n⟩):=Env.le_bind (h.fresh _ (Nat.le_refl _) hn)
 have hold:∀ b,b < H.size→(H.push o)[b]? = H[b]?:=fun b hb=>by simp [Array.getElem?_push,Nat.ne_of_lt hb]
 have hal:∀ r x,st'.alive r=some x→(r=st.next∧x=row)∨(r≠st.next∧st.alive r=some x):=by
  intro r x hx
  by_cases e:r=st.next
  ·left
   have:=Rel.alive_get hx
   rw [hget,if_pos e] at this
   exact ⟨e,(Option.some.inj this).symm⟩
  ·right
   refine ⟨e,?_⟩
   unfold St.alive at hx ⊢
   rw [hget,if_neg e] at hx
   cases hg:st.get r with
   | none=>rw [hg] at hx; exact hx
   | some w =>
    rw [hg] at hx
    cases w with
    | ce l g =>
     simp only at hx ⊢
     rcases hlive g with hh | ⟨rfl,hh⟩
     ·rw [hh] at hx; exact hx
     ·rw [hh] at hx
      have:mem r [st.next]=false:=by
       cases hm:mem r [st.next] with
       | false=>rfl
       | true=>rw [mem_iff] at hm; simp at hm; exact absurd hm e
      simp [this] at hx
    | mp=>exact hx
    | si=>exact hx
    | mi=>exact hx
    | lp=>exact hx
    | mu=>exact hx
    | ch=>exact hx
    | ty=>exact hx
 refine ⟨?_,?_,?_,?_,?_,?_,?_,?_,?_,?_⟩
 ·intro b o' hb
  have hb':E.imm b=some o':=hb
  rw [hold b (h.imm_lt hb')]; exact h.imm b o' hb'
 ·intro r hr ht
  rw [Env.bind_ne (by omega)]; exact h.fresh r (by omega) ht
 ·intro r hr
  rw [hget,if_neg (by omega)]; exact h.freshRow r (by omega)
 ·intro g hg
  rcases hlive g with hh | ⟨rfl,_⟩
  ·rw [hh]; exact h.freshG g (by omega)
  ·omega
 ·intro g al x hg hx
  rcases hlive g with hh | ⟨rfl,hh⟩
  ·rw [hh] at hg; have:=h.liveLt g al x hg hx; omega
  ·rw [hh] at hg; cases hg; simp at hx; omega
 ·intro r x hx
  rcases hal r x hx with ⟨rfl,rfl⟩ | ⟨hne,hx'⟩
  ·exact ⟨_,Env.bind_self,hrow⟩
  ·obtain ⟨B,hB,hR⟩:=h.rows r x hx'
   exact ⟨B,by rw [Env.bind_ne hne]; exact hB,hR.mono hle (hold _ hR.lt)⟩
 ·intro r x B hx hB
  rcases hal r x hx with ⟨rfl,rfl⟩ | ⟨hne,hx'⟩
  ·rw [Env.bind_self] at hB; cases hB
   show E.imm H.size=none
   cases hi:E.imm H.size with
   | none=>rfl
   | some o'=>exact absurd (h.imm_lt hi) (Nat.lt_irrefl _)
  ·rw [Env.bind_ne hne] at hB; exact h.own r x B hx' hB
 ·intro r r' x x' B B' hx hx' hB hB' hb
  rcases hal r x hx with ⟨rfl,rfl⟩ | ⟨hne,hx1⟩ <;> rcases hal r' x' hx' with ⟨rfl,rfl⟩ | ⟨hne',hx1'⟩
  ·exact .inl rfl
  ·rw [Env.bind_self] at hB; cases hB
   rw [Env.bind_ne hne'] at hB'
   obtain ⟨C,hC,hR⟩:=h.rows r' x' hx1'
   rw [hB'] at hC; cases hC
   have:=hR.lt
   simp at hb; omega
  ·rw [Env.bind_self] at hB'; cases hB'
   rw [Env.bind_ne hne] at hB
   obtain ⟨C,hC,hR⟩:=h.rows r x hx1
   rw [hB] at hC; cases hC
   have:=hR.lt
   simp at hb; omega
  ·rw [Env.bind_ne hne] at hB; rw [Env.bind_ne hne'] at hB'
   exact h.sep r r' x x' B B' hx1 hx1' hB hB' hb
 ·intro g al hg
  rcases hlive g with hh | ⟨rfl,hh⟩
  ·rw [hh] at hg
   refine (h.ends g al hg).imp_of_mem ?_
   intro x y hx hy hxy lx ly Bx By h1 h2 h3 h4 h5
   have hxn:x≠st.next:=by have:=h.liveLt g al x hg hx; omega
   have hyn:y≠st.next:=by have:=h.liveLt g al y hg hy; omega
   rw [hget,if_neg hxn] at h1; rw [hget,if_neg hyn] at h2
   rw [Env.bind_ne hxn] at h3; rw [Env.bind_ne hyn] at h4
   exact hxy lx ly Bx By h1 h2 h3 h4 h5
  ·rw [hh] at hg; cases hg; simp
 ·intro r t r0 x hx
  rw [hget] at hx
  split at hx
  ·cases hx; exact (show False from hrow).elim
  ·exact (h.tys r t r0 x hx).mono hle (TyKeep.push H o)
theorem St.get_newCe (st:St) (l:List AV) (r:Nat):(st.newCe l).get r=if r=st.next then some (.ce l st.next) else st.get r:=by
 simp [St.newCe,St.get,Tr.get_set]
theorem St.get_new (st:St) (w:Row) (r:Nat):(st.new w).get r=if r=st.next then some w else st.get r:=by
 simp [St.new,St.get,Tr.get_set]
theorem Rel.newCe (h:Rel E H st) (hn:st.next < E.top) (l:List AV) (vs:List Value) (t:TypeId) (fz:Nat × Nat) (hfz:FzOk vs.length fz)
  (hl:l.length≤vs.length) (hc:ConcL E l (vs.take l.length)) :
  Rel (E.bind st.next ⟨H.size,0,vs.length⟩) (H.push (.cells vs.toArray t fz)) (st.newCe l):=by
 have hle:E.le (E.bind st.next ⟨H.size,0,vs.length⟩):=Env.le_bind (h.fresh _ (Nat.le_refl _) hn)
 refine h.push hn _ _ (.ce l st.next) _ (St.get_newCe st l) rfl ?_ ?_ ?_
 ·intro g
  by_cases e:g=st.next
  ·right; exact ⟨e,by simp [St.newCe,Tr.get_set,e]⟩
  ·left; simp [St.newCe,Tr.get_set,e]
 ·intro l' g e; cases e; rfl
 ·exact ⟨vs.toArray,t,fz,by simp,by simpa using hfz,by simp,by simpa using hl,by simpa using hc.mono hle⟩
theorem Rel.newRow (h:Rel E H st) (hn:st.next < E.top) (o:Obj) (row:Row) (hce:∀ l g,row≠.ce l g)
  (hrow:∀ F,E.le F→RowOK F (H.push o) ⟨H.size,0,0⟩ row) :
  Rel (E.bind st.next ⟨H.size,0,0⟩) (H.push o) (st.new row):=by
 have hle:E.le (E.bind st.next ⟨H.size,0,0⟩):=Env.le_bind (h.fresh _ (Nat.le_refl _) hn)
 exact h.push hn _ _ row _ (St.get_new st row) rfl (fun g=>.inl rfl) (fun l g e=>absurd e (hce l g)) (hrow _ hle)
theorem Rel.putRow (h:Rel E H st) {r:Nat} {row row':Row} {B:Blk} (ha:st.alive r=some row) (hB:E.phi r=some B) (hce:∀ l g,row≠.ce l g) (hce':∀ l g,row'≠.ce l g) (o:Obj)
  (hrow:∀ H',H'[B.b]? = some o→RowOK E H' B row'):Rel E (H.setIfInBounds B.b o) (st.put r row'):=by
 have hlt:B.b < H.size:=by
  obtain ⟨C,hC,hR⟩:=h.rows r row ha
  rw [hB] at hC; cases hC; exact hR.lt
 have hget:∀ x,(st.put r row').get x=if x=r then some row' else st.get x:=fun x=>by simp [St.put,St.get,Tr.get_set]
 have hal:∀ x w,(st.put r row').alive x=some w→(x=r∧w=row')∨(x≠r∧st.alive x=some w):=by
  intro x w hx
  by_cases e:x=r
  ·left
   have:=Rel.alive_get hx
   rw [hget,if_pos e] at this
   exact ⟨e,(Option.some.inj this).symm⟩
  ·right
   refine ⟨e,?_⟩
   unfold St.alive at hx ⊢
   rw [hget,if_neg e] at hx
   exact hx
 have hne:∀ x w C,x≠r→st.alive x=some w→E.phi x=some C→C.b≠B.b:=by
  intro x w C hx hw hC e
  rcases h.sep x r w row C B hw ha hC hB e with rfl | ⟨g,l,l',_,rfl⟩
  ·exact hx rfl
  ·exact hce l' g rfl
 have hother:∀ b,b≠B.b→(H.setIfInBounds B.b o)[b]? = H[b]?:=fun b hb=>by rw [Array.getElem?_setIfInBounds_ne (Ne.symm hb)]
 refine ⟨?_,h.fresh,?_,h.freshG,h.liveLt,?_,?_,?_,?_,?_⟩
 ·intro b o' hb
  have:b≠B.b:=by
   rintro rfl
   have:=h.own r row B ha hB
   rw [this] at hb; cases hb
  rw [hother b this]; exact h.imm b o' hb
 ·intro x hx
  have hx':st.next≤x:=hx
  rw [hget,if_neg (by have:=h.alive_lt ha; omega)]; exact h.freshRow x hx'
 ·intro x w hx
  rcases hal x w hx with ⟨rfl,rfl⟩ | ⟨hxr,hw⟩
  ·exact ⟨B,hB,hrow _ (by simp [hlt])⟩
  ·obtain ⟨C,hC,hR⟩:=h.rows x w hw
   exact ⟨C,hC,hR.mono (Env.le.refl E) (hother _ (hne x w C hxr hw hC))⟩
 ·intro x w C hx hC
  rcases hal x w hx with ⟨rfl,rfl⟩ | ⟨_,hw⟩
  ·rw [hB] at hC; cases hC; exact h.own x row B ha hB
  ·exact h.own x w C hw hC
 ·intro x x' w w' C C' hx hx' hC hC' hb
  rcases hal x w hx with ⟨rfl,rfl⟩ | ⟨hxr,hw⟩ <;> rcases hal x' w' hx' with ⟨rfl,rfl⟩ | ⟨hxr',hw'⟩
  ·exact .inl rfl
  ·rw [hB] at hC; cases hC; exact absurd hb.symm (hne x' w' C' hxr' hw' hC')
  ·rw [hB] at hC'; cases hC'; exact absurd hb (hne x w C hxr hw hC)
  ·exact h.sep x x' w w' C C' hw hw' hC hC' hb
 ·intro g al hg
  refine (h.ends g al hg).imp ?_
  intro x y hxy lx ly Bx By h1 h2 h3 h4 h5
  rw [hget] at h1 h2
  by_cases e1:x=r
  ·rw [if_pos e1] at h1; exact absurd (Option.some.inj h1) (hce' _ _)
  ·by_cases e2:y=r
   ·rw [if_pos e2] at h2; exact absurd (Option.some.inj h2) (hce' _ _)
   ·rw [if_neg e1] at h1; rw [if_neg e2] at h2; exact hxy lx ly Bx By h1 h2 h3 h4 h5
 ·intro x t r0 q hx
  rw [hget] at hx
  split at hx
  ·cases hx; exact (show False from hrow (H.setIfInBounds B.b o) (by simp [hlt])).elim
  ·refine (h.tys x t r0 q hx).mono (.refl E) (TyKeep.setNon ?_)
   obtain ⟨C,hC,hR⟩:=h.rows r row ha
   rw [hB] at hC; cases hC
   exact hR.notCells hce
end
def Owned (E:Env) (st:St) (b:Nat):Prop:=∃ r row B,st.alive r=some row∧E.phi r=some B∧B.b=b
def Un (E:Env) (st:St) (b:Nat):Prop:=¬ Owned E st b∧E.imm b=none
structure Fr (E E':Env) (H H':Array Obj) (st st':St):Prop where
 size:H.size≤H'.size
 keep:∀ b,b < H.size→¬ Owned E st b→H'[b]? = H[b]?
 own:∀ b,Owned E' st' b→H.size≤b∨Owned E st b
theorem Fr.refl (E:Env) (H:Array Obj) (st:St):Fr E E H H st st:=⟨Nat.le_refl _,fun _ _ _=>rfl,fun _ h=>.inr h⟩
theorem Fr.trans {E E' E'':Env} {H H' H'':Array Obj} {st st' st'':St} (h:Fr E E' H H' st st') (k:Fr E' E'' H' H'' st' st''):Fr E E'' H H'' st st'' :=
 ⟨Nat.le_trans h.size k.size,fun b hb ho=>by
  rw [k.keep b (Nat.lt_of_lt_of_le hb h.size) (fun ho'=>(h.own b ho').elim (fun hh=>absurd hb (Nat.not_lt.2 hh)) ho)]
  exact h.keep b hb ho,fun b hb=>by
  rcases k.own b hb with hh | hh
  ·exact .inl (Nat.le_trans h.size hh)
  ·exact h.own b hh⟩
structure Step (E E':Env) (H H':Array Obj) (st st':St):Prop where
 le:E.le E'
 imm:∀ b,b < H.size→¬ Owned E st b→E.imm b=none→E'.imm b=none
 top:E'.top=E.top
 rel:Rel E' H' st'
 fr:Fr E E' H H' st st'
theorem Step.refl {E:Env} {H:Array Obj} {st:St} (h:Rel E H st):Step E E H H st st:=⟨.refl E,fun _ _ _ h=>h,rfl,h,.refl E H st⟩
theorem Step.trans {E E' E'':Env} {H H' H'':Array Obj} {st st' st'':St} (h:Step E E' H H' st st') (k:Step E' E'' H' H'' st' st''):Step E E'' H H'' st st'' :=
 ⟨h.le.trans k.le,fun b hb ho hi=>k.imm b (Nat.lt_of_lt_of_le hb h.fr.size) (fun ho'=>(h.fr.own b ho').elim (fun hh=>absurd hb (Nat.not_lt.2 hh)) ho) (h.imm b hb ho hi),k.top.trans h.top,k.rel,h.fr.trans k.fr⟩
structure StepW (E E':Env) (w w':World) (st st':St):Prop extends Step E E' w.heap w'.heap st st' where
 os:w'.os=w.os
 out:w'.output=w.output
theorem StepW.refl {E:Env} {w:World} {st:St} (h:Rel E w.heap st):StepW E E w w st st:=⟨.refl h,rfl,rfl⟩
theorem StepW.trans {E E' E'':Env} {w w' w'':World} {st st' st'':St} (h:StepW E E' w w' st st') (k:StepW E' E'' w' w'' st' st''):StepW E E'' w w'' st st'' :=
 ⟨h.toStep.trans k.toStep,k.os.trans h.os,k.out.trans h.out⟩
theorem StepW.of {E E':Env} {w:World} {H:Array Obj} {st st':St} (h:Step E E' w.heap H st st'):StepW E E' w { w with heap:=H } st st':=⟨h,rfl,rfl⟩
section
variable {E : Env} {H : Array Obj} {st : St}
theorem Step.newCe (h:Rel E H st) (hn:st.next < E.top) (l:List AV) (vs:List Value) (t:TypeId) (fz:Nat × Nat) (hfz:FzOk vs.length fz)
  (hl:l.length≤vs.length) (hc:ConcL E l (vs.take l.length)) :
  Step E (E.bind st.next ⟨H.size,0,vs.length⟩) H (H.push (.cells vs.toArray t fz)) st (st.newCe l):=by
 refine ⟨Env.le_bind (h.fresh _ (Nat.le_refl _) hn),fun _ _ _ h=>h,rfl,h.newCe hn l vs t fz hfz hl hc,by simp,?_,?_⟩
 ·intro b hb _
  simp [Array.getElem?_push,Nat.ne_of_lt hb]
 ·rintro b ⟨r,row,B,ha,hB,rfl⟩
  by_cases e:r=st.next
  ·subst e; rw [Env.bind_self] at hB; cases hB; exact .inl (Nat.le_refl _)
  ·right
   rw [Env.bind_ne e] at hB
   refine ⟨r,row,B,?_,hB,rfl⟩
   have hg:=Rel.alive_get ha
   rw [St.get_newCe,if_neg e] at hg
   unfold St.alive at ha ⊢
   rw [St.get_newCe,if_neg e,hg] at ha
   rw [hg]
   cases row with
   | ce lx gx =>
    simp only [St.newCe,Tr.get_set] at ha ⊢
    by_cases eg:gx=st.next
    ·subst eg
     have:mem r [st.next]=false:=by
      cases hm:mem r [st.next] with
      | false=>rfl
      | true=>rw [mem_iff] at hm; simp at hm; exact absurd hm e
     simp [this] at ha
    ·rw [if_neg eg] at ha; exact ha
   | mp=>rfl
   | si=>rfl
   | mi=>rfl
   | lp=>rfl
   | mu=>rfl
   | ch=>rfl
   | ty=>simp at ha
theorem Step.newRow (h:Rel E H st) (hn:st.next < E.top) (o:Obj) (row:Row) (hce:∀ l g,row≠.ce l g)
  (hrow:∀ F,E.le F→RowOK F (H.push o) ⟨H.size,0,0⟩ row) :
  Step E (E.bind st.next ⟨H.size,0,0⟩) H (H.push o) st (st.new row):=by
 refine ⟨Env.le_bind (h.fresh _ (Nat.le_refl _) hn),fun _ _ _ h=>h,rfl,h.newRow hn o row hce hrow,by simp,?_,?_⟩
 ·intro b hb _
  simp [Array.getElem?_push,Nat.ne_of_lt hb]
 ·rintro b ⟨r,row',B,ha,hB,rfl⟩
  by_cases e:r=st.next
  ·subst e; rw [Env.bind_self] at hB; cases hB; exact .inl (Nat.le_refl _)
  ·right
   rw [Env.bind_ne e] at hB
   refine ⟨r,row',B,?_,hB,rfl⟩
   unfold St.alive at ha ⊢
   rw [St.get_new,if_neg e] at ha
   exact ha
theorem Step.putRow (h:Rel E H st) {r:Nat} {row row':Row} {B:Blk} (ha:st.alive r=some row) (hB:E.phi r=some B) (hce:∀ l g,row≠.ce l g) (hce':∀ l g,row'≠.ce l g) (o:Obj)
  (hrow:∀ H',H'[B.b]? = some o→RowOK E H' B row'):Step E E H (H.setIfInBounds B.b o) st (st.put r row'):=by
 refine ⟨.refl E,fun _ _ _ h=>h,rfl,h.putRow ha hB hce hce' o hrow,by simp,?_,?_⟩
 ·intro b hb ho
  have:b≠B.b:=by rintro rfl; exact ho ⟨r,row,B,ha,hB,rfl⟩
  rw [Array.getElem?_setIfInBounds_ne (Ne.symm this)]
 ·rintro b ⟨x,w,C,hx,hC,rfl⟩
  right
  by_cases e:x=r
  ·subst e; rw [hB] at hC; cases hC; exact ⟨x,row,B,ha,hB,rfl⟩
  ·refine ⟨x,w,C,?_,hC,rfl⟩
   unfold St.alive at hx ⊢
   have hget:(st.put r row').get x=st.get x:=by simp [St.put,St.get,Tr.get_set,e]
   rw [hget] at hx
   exact hx
end
section
variable {α : Type}
theorem over_length:∀ (l vs:List α),(over l vs).length=l.length
 | [],[]=>rfl
 | [],_ :: _=>rfl
 | _ :: _,[]=>rfl
 | _ :: l,_ :: vs=>by simp [over,over_length l vs]
theorem ovr_length:∀ (l:List α) (o:Nat) (vs:List α),(ovr l o vs).length=l.length
 | l,0,vs=>by simp [ovr,over_length]
 | [],_+1,_=>rfl
 | _ :: l,o+1,vs=>by simp [ovr,ovr_length l o vs]
theorem over_eq:∀ (l vs:List α),vs.length≤l.length→over l vs=vs++l.drop vs.length
 | [],[],_=>rfl
 | [],_ :: _,h=>by simp at h
 | _ :: _,[],_=>by simp [over]
 | _ :: l,_ :: vs,h=>by simp [over,over_eq l vs (by simpa using h)]
theorem ovr_eq:∀ (l:List α) (o:Nat) (vs:List α),o+vs.length≤l.length→ovr l o vs=l.take o++vs++l.drop (o+vs.length)
 | l,0,vs,h=>by simp [ovr,over_eq l vs (by simpa using h)]
 | [],o+1,vs,h=>by simp at h
 | x :: l,o+1,vs,h=>by
  have h':o+vs.length≤l.length:=by simp at h; omega
  simp only [ovr,ovr_eq l o vs h',List.take_succ_cons,List.cons_append]
  rw [show o+1+vs.length=(o+vs.length)+1 by omega,List.drop_succ_cons]
theorem ovr_drop_take (l:List α) (k:Nat) (vs:List α) (d n:Nat) (hk:k+vs.length≤l.length) (h:d+n≤k) :
  ((ovr l k vs).drop d).take n=(l.drop d).take n:=by
 rw [ovr_eq l k vs hk]
 apply List.ext_getElem?
 intro j
 by_cases hj:j < n
 ·rw [List.getElem?_take_of_lt hj,List.getElem?_take_of_lt hj,List.getElem?_drop,List.getElem?_drop,List.append_assoc,List.getElem?_append_left (by rw [List.length_take]; omega),List.getElem?_take_of_lt (by omega)]
 ·rw [List.getElem?_eq_none (by rw [List.length_take]; omega),List.getElem?_eq_none (by rw [List.length_take]; omega)]
theorem ovr_in (l:List α) (d o:Nat) (vs:List α) (n:Nat) (h:o+vs.length≤n) (hl:d+n≤l.length) :
  ((ovr l (d+o) vs).drop d).take n=ovr ((l.drop d).take n) o vs:=by
 rw [ovr_eq l (d+o) vs (by omega),ovr_eq _ o vs (by rw [List.length_take,List.length_drop]; omega)]
 apply List.ext_getElem?
 intro j
 by_cases hj:j < n
 ·rw [List.getElem?_take_of_lt hj,List.getElem?_drop]
  simp only [List.getElem?_append,List.length_take,List.length_append,List.length_drop,List.getElem?_take,List.getElem?_drop]
  have e1:min (d+o) l.length=d+o:=by omega
  have e2:min o (min n (l.length - d))=o:=by omega
  rw [e1,e2]
  by_cases h1:j < o
  ·have:d+j < d+o+vs.length:=by omega
   have:j < o+vs.length:=by omega
   simp_all
  ·by_cases h2:j < o+vs.length
   ·have h3:d+j < d+o+vs.length:=by omega
    have h4:¬ d+j < d+o:=by omega
    have:d+j - (d+o)=j - o:=by omega
    simp_all
   ·have h3:¬ d+j < d+o+vs.length:=by omega
    have h5:d+o+vs.length+(d+j - (d+o+vs.length))=d+j:=by omega
    have h6:o+vs.length+(j - (o+vs.length))=j:=by omega
    simp_all
    rw [if_neg (by omega),if_neg (by omega)]
 ·rw [List.getElem?_eq_none (by rw [List.length_take]; omega),List.getElem?_eq_none (by
   simp only [List.length_append,List.length_take,List.length_drop]; omega)]
end
theorem ConcL.ovr {E:Env} {a b:List AV} {x y:List Value} (h:ConcL E a x) (k:ConcL E b y) (o:Nat) (ho:o+b.length≤a.length):ConcL E (ovr a o b) (ovr x o y):=by
 have h1:=h.length
 have h2:=k.length
 rw [ovr_eq a o b ho,ovr_eq x o y (by omega),h2]
 exact ((h.take o).append k).append (h.drop _)
end
end Go.Ev
