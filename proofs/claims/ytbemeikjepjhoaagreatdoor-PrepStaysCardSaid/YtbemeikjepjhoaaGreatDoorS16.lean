/-
  Regions that draw their order: one operation more. · Regions that draw their order: every order comes to what the text's order comes to.
-/
import Derived.Test.YtbemeikjepjhoaaGreatDoorS15
namespace Go.Ev
noncomputable section
section
variable {P : Program} {S : Self} {nt : Nat} {ops : Array Oper} {bs : List Nat} {R : List Rec} {E E' : Env} {H0 H : Array Obj} {ex : Tmp → Prop} {xb : Option (Nat × Obj)} {D Pd : Nat → Prop} {p q : Nat} {a : Act} {X : St} {β ν : Nat → Nat} {ζ : Nat → Value}
theorem Settled.dst (hs:Settled ops bs) {i j:Nat} {x y:Oper} (hx:ops[i]? = some x) (hy:ops[j]? = some y) {d:Tmp} (h1:x.dst=some d) (h2:y.dst=some d):i=j:=by
 have key:∀ {i j:Nat} {x y:Oper},i < j→ops[i]? = some x→ops[j]? = some y→x.dst=some d→y.dst=some d→False:=by
  intro i j x y hij hx hy h1 h2
  have:=hs.pair i j x y hij hx hy
  unfold pairOk sameDst at this
  rw [h1,h2] at this
  simp at this
 rcases Nat.lt_trichotomy i j with h | h | h
 ·exact (key h hx hy h1 h2).elim
 ·exact h
 ·exact (key h hy hx h2 h1).elim
theorem Settled.bit (hs:Settled ops bs) {i j:Nat} {x y:Oper} (hij:i < j) (hx:ops[i]? = some x) (hy:ops[j]? = some y)
  (h:(∃ d,x.dst=some d∧d ∈ y.looksAt ops)∨(∃ d,y.dst=some d∧d ∈ x.looksAt ops)∨(2≤kind x.op∧kind y.op=3)):(numAt bs j).testBit i=true:=by
 have:=hs.pair i j x y hij hx hy
 unfold pairOk at this
 simp only [Bool.and_eq_true,Bool.or_eq_true] at this
 rcases this.2 with hb | ⟨hap,hcl⟩
 ·exact hb
 ·exfalso
  obtain ⟨e1,e2,e3⟩:=Oper.apart_spec hap
  rcases h with ⟨d,hd,hm⟩ | ⟨d,hd,hm⟩ | ⟨h1,h2⟩
  ·exact e1 d hd hm
  ·exact e3 d hd hm
  ·unfold clash at hcl
   rw [h2] at hcl
   have:Nat.ble 2 (kind x.op)=true:=by simpa [Nat.ble_eq] using h1
   rw [this] at hcl
   simp at hcl
theorem Inv.sees (hs:Settled ops bs) (hR:Ran P S nt ops R) (h:Inv ops R nt E H0 ex xb D (fun i=>q≤i) p q a H E' X β ν ζ) (hdown:∀ j,D j→∀ i,(numAt bs j).testBit i=true→D i)
  {j:Nat} {o:Oper} (ho:ops[j]? = some o) (hj:¬ D j) (hrdy:∀ i,(numAt bs j).testBit i=true→D i) (hxe:∀ x ∈ o.looksAt ops,¬ ex x):∀ x ∈ o.looksAt ops,Conc E' (tget (recAt R j).t x) (a.tmps.getD x undef):=by
 intro x hx
 have hjn:j < ops.size:=(Array.getElem?_eq_some_iff.1 ho).1
 by_cases hex:∃ (i:Nat) (oi:Oper),ops[i]? = some oi∧oi.dst=some x
 ·obtain ⟨i,oi,hoi,hdi⟩:=hex
  rcases Nat.lt_trichotomy i j with hij | hij | hij
  ·have hb:=hs.bit hij hoi ho (.inl ⟨x,hdi,hx⟩)
   have hDi:=hrdy i hb
   have hval:tget (recAt R j).t x=(recAt R i).v:=ran_slot hR hoi hdi j hij (Nat.le_of_lt hjn) fun i' o' h1 h2 h3 h4=>by
    have:=hs.dst hoi h3 hdi h4; omega
   rw [hval]
   refine h.slotV x i oi hDi hoi hdi ?_
   rintro ⟨hA,hqi⟩
   obtain ⟨oi',hoi',hk,hw⟩:=id hA
   rw [hoi] at hoi'; cases hoi'
   rcases h.gap.atq with hq | hK
   ·have:=hA.lt; omega
   ·have hnD:=h.gap.after q (Nat.le_refl _) hK
    obtain ⟨oq,hoq,hkq⟩:=hK
    have hne:q≠i:=by
     rintro rfl
     rw [hoi] at hoq; cases hoq; omega
    have hlt:q < i:=by omega
    cases hbit:(numAt bs i).testBit q with
    | true=>exact hnD (hdown i hDi q hbit)
    | false=>exact hnD (hrdy q (hs.early q i oq oi hlt hoq hoi hkq hk hbit j o ho x hdi hx))
  ·subst hij
   have h0:tget (recAt R i).t x=tget (recAt R 0).t x:=ran_slot0 hR i (Nat.le_of_lt hjn) fun i' o' h1 h3 h4=>by
    have:=hs.dst hoi h3 hdi h4; omega
   rw [h0]
   refine h.slot0 x (hxe x hx) fun i' o' hd h3 h4=>?_
   have:=hs.dst hoi h3 hdi h4
   subst this
   exact hj hd
  ·have h0:tget (recAt R j).t x=tget (recAt R 0).t x:=ran_slot0 hR j (Nat.le_of_lt hjn) fun i' o' h1 h3 h4=>by
    have:=hs.dst hoi h3 hdi h4; omega
   rw [h0]
   refine h.slot0 x (hxe x hx) fun i' o' hd h3 h4=>?_
   have:=hs.dst hoi h3 hdi h4
   subst this
   exact hj (hdown i hd j (hs.bit hij ho hoi (.inr (.inl ⟨x,hdi,hx⟩))))
 ·have hno:∀ (i:Nat) (oi:Oper),ops[i]? = some oi→oi.dst≠some x:=fun i oi h1 h2=>hex ⟨i,oi,h1,h2⟩
  rw [ran_slot0 hR j (Nat.le_of_lt hjn) fun i o _=>hno i o]
  exact h.slot0 x (hxe x hx) fun i o _=>hno i o
theorem Inv.add (hs:Settled ops bs) (hR:Ran P S nt ops R) (h:Inv ops R nt E H0 ex xb D Pd p q a H E' X β ν ζ) {j:Nat} {o:Oper} (ho:ops[j]? = some o) (hj:¬ D j) (hnK:¬ KAt ops j) {z:Value}
  (hC:¬ AAt ops R j→Conc E' (recAt R j).v z)
  (hA:AAt ops R j→Pd j∧z=ζ j∧H0.size≤β j∧β j < H.size∧Un E' X (β j)∧(∀ l,(recAt R (j+1)).st=(recAt R j).st.newCe l→∀ g,RowOK E' H ⟨β j,0,ν j⟩ (.ce l g)) ∧
   (∀ F,F.phi (rowAt R j)=some ⟨β j,0,ν j⟩→Conc F (recAt R j).v (ζ j))∧(∀ i,D i→AAt ops R i→Pd i→β i≠β j)∧∀ b ob,xb=some (b,ob)→β j≠b) :
  Inv ops R nt E H0 ex xb (fun i=>i=j∨D i) Pd p q (a.put o.dst z) H E' X β ν ζ:=by
 have hput:∀ x,(a.put o.dst z).tmps.getD x undef=if o.dst=some x then z else a.tmps.getD x undef:=by
  intro x
  cases hd:o.dst with
  | none=>simp [Act.put]
  | some d =>
   have hlt:d < nt:=by
    have:=(hR j o ho).2.1
    rw [hd] at this
    exact putT_lt this
   simp only [Act.put,Array.getD_eq_getD_getElem?]
   by_cases e:d=x
   ·subst e
    rw [Array.getElem?_setIfInBounds_self]
    have:d < a.tmps.size:=by rw [h.sz]; exact hlt
    simp [this]
   ·rw [Array.getElem?_setIfInBounds_ne e,if_neg (fun h=>e (Option.some.inj h))]
 have und:∀ i,AAt ops R i→(¬ ((i=j∨D i)∧¬ Pd i)↔¬ (D i∧¬ Pd i)):=fun i ha=>by
  constructor
  ·rintro hn ⟨hd,hq⟩; exact hn ⟨.inr hd,hq⟩
  ·rintro hn ⟨rfl | hd,hq⟩
   ·exact hq (hA ha).1
   ·exact hn ⟨hd,hq⟩
 refine ⟨h.st,?_,?_,?_,?_,⟨h.gap.pq,h.gap.qn,fun i o h1 h2 h3=>.inr (h.gap.before i o h1 h2 h3),h.gap.noK,h.gap.atq,?_,h.gap.start⟩,h.next,h.freshP,h.lows,?_,?_,?_,?_,?_⟩
 ·have:=h.sz
  cases hd:o.dst with
  | none=>simpa [Act.put] using this
  | some d=>simpa [Act.put] using this
 ·intro x i oi hd hoi hx hn
  rw [hput]
  by_cases e:i=j
  ·subst e
   rw [ho] at hoi; cases hoi
   rw [if_pos hx]
   exact hC fun ha=>hn ⟨ha,(hA ha).1⟩
  ·have:o.dst≠some x:=fun h'=>e (hs.dst hoi ho hx h')
   rw [if_neg this]
   exact h.slotV x i oi (hd.resolve_left e) hoi hx hn
 ·intro x i oi hd hoi hx ha hq
  rw [hput]
  by_cases e:i=j
  ·subst e
   rw [ho] at hoi; cases hoi
   rw [if_pos hx]
   exact (hA ha).2.1
  ·have:o.dst≠some x:=fun h'=>e (hs.dst hoi ho hx h')
   rw [if_neg this]
   exact h.slotP x i oi (hd.resolve_left e) hoi hx ha hq
 ·intro x hxe hx
  rw [hput,if_neg (hx j o (.inl rfl) ho)]
  exact h.slot0 x hxe fun i oi hd=>hx i oi (.inr hd)
 ·rintro i h1 h2 (rfl | hd)
  ·exact hnK h2
  ·exact h.gap.after i h1 h2 hd
 ·intro i h1 h2 ha hn
  exact h.undone i h1 h2 ha ((und i ha).1 hn)
 ·intro r hr
  exact h.rest r fun i h1 h2 ha hn=>hr i h1 h2 ha ((und i ha).2 hn)
 ·rintro i (rfl | hd) ha hq
  ·obtain ⟨_,_,v⟩:=hA ha
   exact ⟨v.1,v.2.1,v.2.2.1,v.2.2.2.1,v.2.2.2.2.1⟩
  ·exact h.pend i hd ha hq
 ·rintro i i' (rfl | hd) ha hq (rfl | hd') ha' hq' e
  ·rfl
  ·exact absurd e.symm ((hA ha).2.2.2.2.2.2.2.1 i' hd' ha' hq')
  ·exact absurd e ((hA ha').2.2.2.2.2.2.2.1 i hd ha hq)
  ·exact h.inj i i' hd ha hq hd' ha' hq' e
 ·intro b ob hb
  obtain ⟨u1,u2,u3,u4⟩:=h.xtra b ob hb
  refine ⟨u1,u2,u3,?_⟩
  rintro i (rfl | hd) ha hq
  ·exact (hA ha).2.2.2.2.2.2.2.2 b ob hb
  ·exact u4 i hd ha hq
theorem Inv.other (h:Inv ops R nt E H0 ex xb D Pd p q a H E' X β ν ζ) (o:Obj):Inv ops R nt E H0 ex xb D Pd p q a (H.push o) E' X β ν ζ:=by
 refine ⟨h.st.trans (Step.other h.st.rel o),h.sz,h.slotV,h.slotP,h.slot0,h.gap,h.next,h.freshP,h.lows,h.undone,h.rest,fun i hd ha hq=>?_,h.inj,fun b ob hb=>?_⟩
 rotate_left 1
 ·obtain ⟨u1,u2,u3,u4⟩:=h.xtra b ob hb
  have:b < H.size:=(Array.getElem?_eq_some_iff.1 u2).1
  exact ⟨u1,by rw [← u2]; simp [Array.getElem?_push,Nat.ne_of_lt this],u3,u4⟩
 obtain ⟨v1,v2,v3,v4,v5⟩:=h.pend i hd ha hq
 refine ⟨v1,by simp; omega,v3,fun l hl g=>(v4 l hl g).mono (.refl _) ?_,v5⟩
 show (H.push o)[β i]? = H[β i]?
 simp [Array.getElem?_push,Nat.ne_of_lt v2]
theorem Inv.tell (h:Inv ops R nt E H0 ex xb D Pd p q a H E' X β ν ζ) {j:Nat} (hj:¬ D j) (b n:Nat) (z:Value) :
  Inv ops R nt E H0 ex xb D Pd p q a H E' X (fun i=>if i=j then b else β i) (fun i=>if i=j then n else ν i) (fun i=>if i=j then z else ζ i):=by
 have ne:∀ i,D i→i≠j:=fun i hd e=>hj (e ▸ hd)
 refine ⟨h.st,h.sz,h.slotV,fun x i o hd ho hx ha hq=>?_,h.slot0,h.gap,h.next,h.freshP,h.lows,h.undone,h.rest,fun i hd ha hq=>?_,fun i i' hd ha hq hd' ha' hq' e=>?_,fun b ob hb=>?_⟩
 ·simp only [if_neg (ne i hd)]
  exact h.slotP x i o hd ho hx ha hq
 ·simp only [if_neg (ne i hd)]
  exact h.pend i hd ha hq
 ·simp only [if_neg (ne i hd),if_neg (ne i' hd')] at e
  exact h.inj i i' hd ha hq hd' ha' hq' e
 ·obtain ⟨u1,u2,u3,u4⟩:=h.xtra b ob hb
  refine ⟨u1,u2,u3,fun i hd ha hq=>?_⟩
  simp only [if_neg (ne i hd)]
  exact u4 i hd ha hq
theorem next_K (ops:Array Oper):∀ (m p:Nat),p+m=ops.size→∃ q,p≤q∧q≤ops.size∧(∀ i,p≤i→i < q→¬ KAt ops i)∧(q=ops.size∨KAt ops q)
 | 0,p,h=>⟨p,Nat.le_refl _,by omega,fun i h1 h2=>by omega,.inl (by omega)⟩
 | m+1,p,h=>by
  by_cases hk:KAt ops p
  ·exact ⟨p,Nat.le_refl _,by omega,fun i h1 h2=>by omega,.inr hk⟩
  ·obtain ⟨q,h1,h2,h3,h4⟩:=next_K ops m (p+1) (by omega)
   refine ⟨q,by omega,h2,fun i k1 k2=>?_,h4⟩
   by_cases e:i=p
   ·subst e; exact hk
   ·exact h3 i (by omega) k2
end
end
end Go.Ev
namespace Go.Ev
noncomputable section
section
variable {P : Program} {S : Self} {nt : Nat} {ops : Array Oper} {bs : List Nat} {R : List Rec} {E E' : Env} {H0 : Array Obj} {ex : Tmp → Prop} {xb : Option (Nat × Obj)} {D Pd : Nat → Prop} {p q : Nat} {a : Act} {X : St} {β ν : Nat → Nat} {ζ : Nat → Value}
theorem op01 {st:St} {w:World} {E:Env} (h:Rel E w.heap st) {t:Tr AV} {ρ:Operand→Value} (hρ:∀ x,Conc E (evO t x) (ρ x)) {o:Oper} {v:AV} {st':St} (hk:kind o.op < 2) (ho:evOp P S t st o=some (v,st')) :
  ∃ z,(execOp ρ o).run P w = .ok (.value z) w∧Conc E v z:=by
 have val:∀ {s:Sem Value} {z:Value},s.run P w = .ok z w→((do pure (.value (← s)):Sem Next)).run P w = .ok (.value z) w:=by
  intro s z hr; rw [Sem.run_bind,hr]; rfl
 unfold evOp at ho
 cases hop:o.op <;> rw [hop] at ho hk <;> first | (simp only [kind] at hk; omega; done) | skip
 case move x =>
  cases ho
  simp only [execOp,hop]
  exact ⟨ρ x,rfl,hρ x⟩
 case assign x =>
  cases ho
  simp only [execOp,hop]
  exact ⟨ρ x,rfl,hρ x⟩
 case pick c a b =>
  have ho:pickB (evO t a) (evO t b) st (evO t c).asB=some (v,st'):=ho
  cases hb:(evO t c).asB with
  | none=>rw [hb] at ho; cases ho
  | some bb =>
   rw [hb] at ho
   have hr:=asBool_run (P:=P) (w:=w) hb (hρ c)
   simp only [execOp,hop]
   cases bb with
   | true =>
    cases ho
    exact ⟨ρ a,by rw [Sem.run_bind,hr]; rfl,hρ a⟩
   | false =>
    cases ho
    exact ⟨ρ b,by rw [Sem.run_bind,hr]; rfl,hρ b⟩
 case build ty parts =>
  obtain ⟨rfl,z,k1,k2⟩:=build_spec (S:=S) (w:=w) hρ ho
  simp only [execOp,hop]
  exact ⟨z,val k1,k2⟩
 case load ty a =>
  obtain ⟨hd,rfl⟩:=give_spec ho
  obtain ⟨z,k1,k2⟩:=loadAt_spec h hd (hρ a)
  simp only [execOp,hop]
  exact ⟨z,val k1,k2⟩
 case nilCheck x =>
  obtain ⟨rfl,k2,k3⟩:=notNil_spec ho (hρ x)
  exact ⟨ρ x,nilCheck_run k3 rfl hop,k2⟩
 case binOp op ty x y ty' =>
  obtain ⟨hd,rfl⟩:=give_spec ho
  obtain ⟨z,k1,k2⟩:=binOp_spec (w:=w) hd (hρ x) (hρ y)
  simp only [execOp,hop]
  exact ⟨z,val k1,k2⟩
 case unOp op ty x =>
  obtain ⟨hd,rfl⟩:=give_spec ho
  obtain ⟨z,k1,k2⟩:=unOp_spec (w:=w) hd (hρ x)
  simp only [execOp,hop]
  exact ⟨z,val k1,k2⟩
 case makeInterface xt x =>
  have ho:opMakeInterface xt x P S t st=some (v,st'):=ho
  unfold opMakeInterface at ho
  split at ho
  ·cases ho
  ·rename_i d hnd hu
   cases ho
   simp only [execOp,hop]
   refine ⟨.iface xt (ρ x),val ?_,.ifc _ _ _ (hρ x)⟩
   simp only [Instr.makeInterface,Sem.run_bind,run_under hu,Result.andThen_ok]
   try rfl
  ·cases ho
 case makeFunc fn a b =>
  obtain ⟨hf,ho⟩:=bor ho
  cases ho
  simp only [execOp,hop]
  refine ⟨.func fn (a.map ρ) (b.map ρ),val rfl,?_⟩
  have:=Conc.f (E:=E) fn _ _ _ _ hf (args_conc hρ a.toList) (args_conc hρ b.toList)
  rwa [mapArr,mapArr] at this
 case slice ty x lo hi mx =>
  obtain ⟨hd,rfl⟩:=give_spec ho
  obtain ⟨z,k1,k2⟩:=sliceR_spec h hd (hρ x) (concO hρ lo) (concO hρ hi) (concO hρ mx)
  simp only [execOp,hop]
  exact ⟨z,val k1,k2⟩
 case fieldAddr s x n =>
  have ho:opFieldAddr s x n P S t st=some (v,st'):=ho
  unfold opFieldAddr at ho
  split at ho
  ·rename_i o' ho'
   obtain ⟨rfl,z,k1,k2⟩:=fieldAt_spec (w:=w) ho' ho (hρ x)
   simp only [execOp,hop]
   exact ⟨z,val k1,k2⟩
  ·cases ho
 case field s x n =>
  obtain ⟨rfl,z,k1,k2⟩:=field_spec (S:=S) (w:=w) hρ ho
  simp only [execOp,hop]
  exact ⟨z,val k1,k2⟩
 case indexAddr ty x ix =>
  obtain ⟨hd,rfl⟩:=give_spec ho
  obtain ⟨z,k1,k2⟩:=indexAddr_spec (w:=w) hd (hρ x) (hρ ix)
  simp only [execOp,hop]
  exact ⟨z,val k1,k2⟩
 case index ty x ix =>
  obtain ⟨hd,rfl⟩:=give_spec ho
  obtain ⟨z,k1,k2⟩:=index_spec (w:=w) hd (hρ x) (hρ ix)
  simp only [execOp,hop]
  exact ⟨z,val k1,k2⟩
 case lookup ty x ix ok =>
  obtain ⟨hd,rfl⟩:=give_spec ho
  obtain ⟨z,k1,k2⟩:=lookup_spec h hd (hρ x) (hρ ix)
  simp only [execOp,hop]
  exact ⟨z,val k1,k2⟩
 case extract x n =>
  obtain ⟨rfl,z,k1,k2⟩:=nth_spec (P:=P) (w:=w) ho (hρ x)
  simp only [execOp,hop]
  exact ⟨z,val k1,k2⟩
 case call c =>
  obtain ⟨callee,as,ts⟩:=c
  cases callee <;> first | (simp [kind] at hk; done) | skip
  rename_i bb
  cases bb <;> first | (simp [kind] at hk; done) | skip
  have ho:bLen P st ts.toList (args t as.toList)=some (v,st'):=ho
  unfold bLen at ho
  split at ho
  ·rename_i x hx
   have ha:=args_conc hρ as.toList
   rw [hx] at ha
   cases ha':as.toList with
   | nil=>rw [ha'] at hx; cases hx
   | cons y l =>
    rw [ha'] at hx
    cases l with
    | cons=>cases hx
    | nil =>
     cases hx
     obtain ⟨rfl,z,k1,k2⟩:=len_spec h (u:=ρ y) ho (hρ y) o.type
     refine ⟨z,?_,k2⟩
     have e:as.map ρ = #[ρ y]:=by
      have:as = #[y]:=by rw [← Array.toArray_toList (xs:=as),ha']
      rw [this]; simp
     simp only [execOp,hop,resolve,invoke,e]
     have:=val k1
     simpa [builtin] using this
  ·cases ho
def Looks (P:Program) (S:Self) (ops:Array Oper) (bs:List Nat) (R:List Rec):Prop :=
 ∀ j p o,ops[j]? = some o→kind o.op=1→(recAt R j).w=true→(p=0∨∃ k,p=k+1∧KAt ops k) →
  aheadOf bs p j=true∨(∃ i,KAt ops i∧p≤i∧(numAt bs j).testBit i=true)∨(p≤j∧∀ i o',p≤i→i < j→ops[i]? = some o'→kind o'.op < 2) ∨
   ∃ u,evOp P S (recAt R j).t (recAt R p).st o=some ((recAt R j).v,u)
theorem calm_st (hR:Ran P S nt ops R) {p:Nat}:∀ (j:Nat),p≤j→j≤ops.size→(∀ i o',p≤i→i < j→ops[i]? = some o'→kind o'.op < 2)→(recAt R j).st=(recAt R p).st:=by
 intro j
 induction j with
 | zero =>
  intro hp _ _
  have:p=0:=by omega
  subst this; rfl
 | succ j ih =>
  intro hp hj hc
  rcases Nat.lt_or_ge p (j+1) with hlt | hge
  ·have ho:ops[j]? = some ops[j]:=by simp [show j < ops.size by omega]
   have hk:=hc j _ (by omega) (by omega) ho
   have hnK:¬ KAt ops j:=fun ⟨o,h1,h2⟩=>by rw [ho] at h1; cases h1; omega
   rcases ran_step hR ho hnK (kind_le _) with ⟨_,h⟩ | ⟨⟨o,h1,h2,_⟩,_⟩
   ·rw [h]; exact ih (by omega) (by omega) fun i o' h1 h2=>hc i o' h1 (by omega)
   ·rw [ho] at h1; cases h1; omega
  ·have:p=j+1:=by omega
   subst this; rfl
theorem Inv.sub (hS:SelfUp S) (hR:Ran P S nt ops R) {H:Array Obj} (h:Inv ops R nt E H0 ex xb D Pd p q a H E' X β ν ζ):Sub (recAt R p).st X:=by
 obtain ⟨g1,g2⟩:=ran_gap hS hR q h.gap.pq h.gap.qn h.gap.noK
 have ne:∀ r,r < (recAt R p).st.next→∀ i,p≤i→i < q→AAt ops R i→r≠rowAt R i:=by
  intro r hr i h1 h2 ha
  have:(recAt R p).st.next≤rowAt R i:=ran_mono hS hR h1 (Nat.le_of_lt ha.lt)
  omega
 refine ⟨fun r x hx=>?_,fun g al hg=>?_⟩
 ·have hr:r < (recAt R p).st.next:=by
   rcases Nat.lt_or_ge r (recAt R p).st.next with hl | hl
   ·exact hl
   ·rw [(h.freshP r hl).1] at hx; cases hx
  rw [(h.rest r fun i h1 h2 ha _=>ne r hr i h1 h2 ha).1,(g1 r (ne r hr)).1]; exact hx
 ·have hr:g < (recAt R p).st.next:=by
   rcases Nat.lt_or_ge g (recAt R p).st.next with hl | hl
   ·exact hl
   ·rw [(h.freshP g hl).2] at hg; cases hg
  rw [(h.rest g fun i h1 h2 ha _=>ne g hr i h1 h2 ha).2,(g1 g (ne g hr)).2]; exact hg
theorem Inv.goOn (hS:SelfOK P S) (hs:Settled ops bs) (hR:Ran P S nt ops R) (hL:Looks P S ops bs R) (hr0:Rel E H0 (recAt R 0).st) (hn:(recAt R ops.size).st.next≤E.top) {b:Frame} {k:List Item} {w:World}
  (h:Inv ops R nt E H0 ex xb D (fun i=>q≤i) p q a w.heap E' X β ν ζ) (hdown:∀ j,D j→∀ i,(numAt bs j).testBit i=true→D i)
  {j:Nat} {o:Oper} (ho:ops[j]? = some o) (hj:¬ D j) (hrdy:∀ i,(numAt bs j).testBit i=true→D i) (hxe:∀ x ∈ o.looksAt ops,¬ ex x)
  {mops:Array Oper} {j':Nat} {o':Oper} (hmo:mops[j']? = some o') (hexe:∀ ρ,execOp ρ o'=execOp ρ o) (hop':o'.op=o.op) (hdst:o'.dst=o.dst)
  (hwy:Region.wanted o' (yielded mops a.tmps)=Region.wanted o (yielded ops a.tmps)) :
  ∃ p' q' a' w' E'' X' β' ν' ζ',Inv ops R nt E H0 ex xb (fun i=>i=j∨D i) (fun i=>q'≤i) p' q' a' (World.heap w') E'' X' β' ν' ζ'∧a'.defers=a.defers∧(w'.os=w.os∧w'.output=w.output)∧(E'.le E''∧∀ x,o.dst≠some x→a'.tmps.getD x undef=a.tmps.getD x undef) ∧
   ∀ cs rest,Steps P (lone (b.atR a (.inRegion mops (j' :: rest) :: k)) cs w) (lone (b.atR a' (.inRegion mops rest :: k)) cs w'):=by
 have hsee:=h.sees hs hR hdown ho hj hrdy hxe
 obtain ⟨hguard,t',ρ,hρ,hev,hex⟩:=looks_spec (P:=P) (S:=S) h.sz hsee
 obtain ⟨r1,r2,r3,r4⟩:=hR j o ho
 have hw:=hwy.trans (hguard _ r1)
 have hjn:j < ops.size:=(Array.getElem?_eq_some_iff.1 ho).1
 have skip:(recAt R j).w=false→∀ cs rest,Steps P (lone (b.atR a (.inRegion mops (j' :: rest) :: k)) cs w) (lone (b.atR (a.put o.dst undef) (.inRegion mops rest :: k)) cs w):=by
  intro hW cs rest
  rw [hW] at hw
  have:=stepR_op_skip (P:=P) (b:=b) (a:=a) (k:=k) (cs:=cs) (w:=w) (ops:=mops) (i:=j') (rest:=rest) (by simp [hmo,hw])
  rw [hmo] at this
  simp only [Option.bind_some,hdst] at this
  exact Steps.one this
 have sel:∀ {st:St} {r:AV × St},evOp P S (recAt R j).t st o=some r→∀ cs b,o.op≠.select cs b:=by
  intro st r _ cs b hop
  have:=hs.nosel j o ho
  rw [hop] at this
  cases this
 have value:(recAt R j).w=true→∀ {z:Value} {w':World} {st:St} {r:AV × St},evOp P S (recAt R j).t st o=some r→(execOp ρ o).run P w = .ok (.value z) w' →
   ∀ cs rest,Steps P (lone (b.atR a (.inRegion mops (j' :: rest) :: k)) cs w) (lone (b.atR (a.put o.dst z) (.inRegion mops rest :: k)) cs w'):=by
  intro hW z w' st r he hrun cs rest
  rw [hW] at hw
  rw [hex (sel he),← hexe] at hrun
  obtain ⟨v1,st1⟩:=r
  have:=step_value (b:=b) (k:=k) (cs:=cs) (rest:=rest) hmo hw (by rw [hop']; exact notDefer he) hrun
  rw [hdst] at this
  exact Steps.one this
 have hput:∀ (z:Value) x,(a.put o.dst z).tmps.getD x undef=if o.dst=some x then z else a.tmps.getD x undef:=by
  intro z x
  cases hd:o.dst with
  | none=>simp [Act.put]
  | some d =>
   have hlt:d < nt:=by rw [hd] at r2; exact putT_lt r2
   simp only [Act.put,Array.getD_eq_getD_getElem?]
   by_cases e:d=x
   ·subst e
    rw [Array.getElem?_setIfInBounds_self]
    have:d < a.tmps.size:=by rw [h.sz]; exact hlt
    simp [this]
   ·rw [Array.getElem?_setIfInBounds_ne e,if_neg (fun h=>e (Option.some.inj h))]
 have hkeep:∀ (z:Value) x,o.dst≠some x→(a.put o.dst z).tmps.getD x undef=a.tmps.getD x undef:=fun z x hne=>by rw [hput,if_neg hne]
 by_cases hK:KAt ops j
 ·
  have hk3:kind o.op=3:=by obtain ⟨o',h1,h2⟩:=hK; rw [ho] at h1; cases h1; exact h2
  have hjq:j=q:=by
   rcases Nat.lt_trichotomy j q with hlt | he | hgt
   ·rcases Nat.lt_or_ge j p with h1 | h1
    ·exact absurd (h.gap.before j o h1 ho (by omega)) hj
    ·exact absurd hK (h.gap.noK j h1 hlt)
   ·exact he
   ·rcases h.gap.atq with hq | hq
    ·omega
    ·obtain ⟨oq,hoq,hkq⟩:=id hq
     have:=hs.bit hgt hoq ho (.inr (.inr ⟨by omega,hk3⟩))
     exact absurd (hrdy q this) (h.gap.after q (Nat.le_refl _) hq)
  subst hjq
  have hall:∀ i,p≤i→i < j→AAt ops R i→D i:=by
   intro i h1 h2 ha
   obtain ⟨oi,hoi,hki,_⟩:=ha
   exact hrdy i (hs.bit h2 hoi ho (.inr (.inr ⟨by omega,hk3⟩)))
  have hX:∀ r,X.get r=(recAt R j).st.get r∧X.live.get r=(recAt R j).st.live.get r:=fun r =>
   h.rest r fun i h1 h2 ha hno=>absurd ⟨hall i h1 h2 ha,by omega⟩ hno
  have hstj:Step E E' H0 w.heap (recAt R 0).st (recAt R j).st:=h.st.ext (fun r=>(hX r).1.symm) (fun g=>(hX g).2.symm) (by rw [h.next]; exact Nat.le_refl _)
  have htop:E'.top=E.top:=hstj.top
  have hnj:(recAt R (j+1)).st.next≤E.top:=Nat.le_trans (ran_mono hS.up hR (by omega) (Nat.le_refl _)) hn
  have core:∃ E'' w' z,StepW E' E'' w w' (recAt R j).st (recAt R (j+1)).st∧Conc E'' (recAt R j).v z ∧
    ∀ cs rest,Steps P (lone (b.atR a (.inRegion mops (j' :: rest) :: k)) cs w) (lone (b.atR (a.put o.dst z) (.inRegion mops rest :: k)) cs w'):=by
   cases hW:(recAt R j).w with
   | false =>
    obtain ⟨e1,e2⟩:=r3 hW
    rw [e2,e1]
    exact ⟨E',w,undef,.refl hstj.rel,.un,skip hW⟩
   | true =>
    have he:=r4 hW
    have he':=he
    rw [← hev] at he'
    have hg:=op_all hS hstj.rel hρ he' (by rw [htop]; exact hnj)
    rw [hex (sel he),← hexe] at hg
    rw [hW] at hw
    have hnd:∀ c,o'.op≠.defer c:=by rw [hop']; exact notDefer he
    obtain ⟨E'',w',cv,k1,k2,k3⟩:=hg
    refine ⟨E'',w',cv,k1,k2,fun cs rest=>?_⟩
    have hf:=Frame.finish_atR b a mops j' rest k cv
    rw [hmo] at hf
    simp only [Option.bind_some,hdst] at hf
    rcases k3 with (h | ⟨h,rfl⟩) | ⟨f,as,h,hcall⟩ | ⟨l,f,tmps,x,y,h,hround⟩ | ⟨cases,bl,sh,h,htell⟩
    ·have:=step_value (b:=b) (k:=k) (cs:=cs) (rest:=rest) hmo hw hnd h
     rw [hdst] at this
     exact Steps.one this
    ·have:=step_skipped (b:=b) (k:=k) (cs:=cs) (rest:=rest) hmo hw hnd h
     rw [hdst] at this
     exact Steps.one this
    ·refine (Steps.one (step_enter hmo hw hnd h)).trans ?_
     obtain ⟨fr,h1,h2,h3⟩:=hcall (b.atR a (.inRegion mops (j' :: rest) :: k) :: cs)
     refine h1.trans ?_
     rw [← hf]
     exact Steps.one (step_leave_returned h3)
    ·refine (Steps.one (step_round hmo hw hnd h)).trans ?_
     rw [← hf]
     exact hround _ cs
    ·obtain ⟨es,hee⟩:=stepG_comm (b:=b) (k:=k) (cs:=cs) (rest:=rest) hmo hw hnd h
     rw [← hf]
     exact Steps.one (htell _ cs es hee)
  obtain ⟨E'',w',z,c1,c2,c3⟩:=core
  obtain ⟨q',n1,n2,n3,n4⟩:=next_K ops (ops.size - (j+1)) (j+1) (by omega)
  obtain ⟨g1,g2⟩:=ran_gap hS.up hR q' n1 n2 n3
  have hnq:(recAt R q').st.next≤E.top:=Nat.le_trans (ran_mono hS.up hR n2 (Nat.le_refl _)) hn
  let X2:St:=⟨(recAt R (j+1)).st.rows,(recAt R (j+1)).st.live,(recAt R q').st.next⟩
  have hst2:Step E E'' H0 w'.heap (recAt R 0).st X2:=(hstj.trans c1.toStep).ext (fun _=>rfl) (fun _=>rfl) (ran_mono hS.up hR n1 n2)
  have htop2:E''.top=E.top:=by rw [c1.top,htop]
  have hrel:=c1.rel
  have hafter:∀ i,j < i→KAt ops i→¬ D i:=fun i h1 h2=>h.gap.after i (by omega) h2
  have hnA:¬ AAt ops R j:=fun ⟨o',h1,h2,_⟩=>by rw [ho] at h1; cases h1; omega
  have hI:Inv ops R nt E H0 ex xb (fun i=>i=j∨D i) (fun i=>j+1≤i) (j+1) q' (a.put o.dst z) w'.heap E'' X2 β ν ζ:=by
   refine ⟨hst2,?_,?_,?_,?_,⟨n1,n2,?_,n3,n4,?_,.inr ⟨j,rfl,hK⟩⟩,rfl,?_,?_,?_,?_,?_,?_,?_⟩
   ·have:=h.sz
    cases hd:o.dst with
    | none=>simpa [Act.put] using this
    | some d=>simpa [Act.put] using this
   ·intro x i oi hd hoi hx hno
    rw [hput]
    by_cases e:i=j
    ·subst e
     rw [ho] at hoi; cases hoi
     rw [if_pos hx]; exact c2
    ·have:o.dst≠some x:=fun h'=>e (hs.dst hoi ho hx h')
     rw [if_neg this]
     refine (h.slotV x i oi (hd.resolve_left e) hoi hx fun ⟨ha,hq⟩=>hno ⟨ha,by omega⟩).mono c1.le
   ·intro x i oi hd hoi hx ha hq
    have e:i≠j:=by omega
    have:o.dst≠some x:=fun h'=>e (hs.dst hoi ho hx h')
    rw [hput,if_neg this]
    exact h.slotP x i oi (hd.resolve_left e) hoi hx ha (by omega)
   ·intro x hxe hx
    rw [hput,if_neg (hx j o (.inl rfl) ho)]
    exact (h.slot0 x hxe fun i oi hd=>hx i oi (.inr hd)).mono c1.le
   ·intro i oi h1 hoi h2
    by_cases e:i=j
    ·exact .inl e
    ·right
     rcases Nat.lt_or_ge i p with h3 | h3
     ·exact h.gap.before i oi h3 hoi h2
     ·exact hrdy i (hs.bit (by omega) hoi ho (.inr (.inr ⟨h2,hk3⟩)))
   ·rintro i h1 h2 (rfl | hd)
    ·omega
    ·exact hafter i (by omega) h2 hd
   ·intro r hr; exact ⟨hrel.freshRow r hr,hrel.freshG r hr⟩
   ·intro g al hg x hx; exact hrel.liveLt g al x hg hx
   ·intro i h1 h2 ha _
    have hge:(recAt R (j+1)).st.next≤rowAt R i:=ran_mono hS.up hR h1 (Nat.le_of_lt ha.lt)
    have hlt:=row_lt hS.up hR ha h2 n2
    exact ⟨hrel.freshRow _ hge,hrel.freshG _ hge,hrel.fresh _ hge (by rw [htop2]; omega)⟩
   ·intro r hr
    have:=g1 r fun i h1 h2 ha=>hr i h1 h2 ha (fun ⟨_,h3⟩=>h3 h1)
    exact ⟨this.1.symm,this.2.symm⟩
   ·intro i hd ha hq
    have e:i≠j:=by omega
    obtain ⟨v1,v2,v3,v4,v5⟩:=h.pend i (hd.resolve_left e) ha (by omega)
    have hun:Un E' (recAt R j).st (β i):=by
     refine ⟨?_,v3.2⟩
     rintro ⟨r,row,B,hr,hB,hb⟩
     exact v3.1 ⟨r,row,B,by rw [← St.alive_ext (fun r=>(hX r).1) (fun g=>(hX g).2)] at hr; exact hr,hB,hb⟩
    refine ⟨v1,Nat.lt_of_lt_of_le v2 c1.fr.size,?_,fun l hl g=>(v4 l hl g).mono c1.le (c1.fr.keep _ v2 hun.1),v5⟩
    have:=c1.un v2 hun
    refine ⟨?_,this.2⟩
    rintro ⟨r,row,B,hr,hB,hb⟩
    exact this.1 ⟨r,row,B,hr,hB,hb⟩
   ·intro i i' hd ha hq hd' ha' hq'
    exact h.inj i i' (hd.resolve_left (by omega)) ha (by omega) (hd'.resolve_left (by omega)) ha' (by omega)
   ·intro b ob hb
    obtain ⟨u1,u2,u3,u4⟩:=h.xtra b ob hb
    have hlt:b < w.heap.size:=(Array.getElem?_eq_some_iff.1 u2).1
    have hun:Un E' (recAt R j).st b:=by
     refine ⟨?_,u3.2⟩
     rintro ⟨r,row,B,hr,hB,hb⟩
     exact u3.1 ⟨r,row,B,by rw [← St.alive_ext (fun r=>(hX r).1) (fun g=>(hX g).2)] at hr; exact hr,hB,hb⟩
    refine ⟨u1,(c1.fr.keep _ hlt hun.1).trans u2,?_,fun i hd ha hq=>u4 i (hd.resolve_left (by omega)) ha (by omega)⟩
    have:=c1.un hlt hun
    refine ⟨?_,this.2⟩
    rintro ⟨r,row,B,hr,hB,hb⟩
    exact this.1 ⟨r,row,B,hr,hB,hb⟩
  obtain ⟨E3,X3,hI3,l3⟩:=hI.regs hr0 hS.up hR q' n1 (Nat.le_refl _)
  exact ⟨j+1,q',_,w',E3,X3,β,ν,ζ,hI3,put_defers ..,⟨c1.os,c1.out⟩,⟨c1.le.trans l3,hkeep z⟩,c3⟩
 ·cases hW:(recAt R j).w with
  | false =>
   have hnA:¬ AAt ops R j:=fun ⟨_,_,_,h'⟩=>by rw [hW] at h'; cases h'
   refine ⟨p,q,_,w,E',X,β,ν,ζ,h.add hs hR ho hj hK (z:=undef) (fun _=>?_) (fun ha=>absurd ha hnA),put_defers ..,⟨rfl,rfl⟩,⟨.refl _,hkeep _⟩,skip hW⟩
   rw [(r3 hW).1]; exact .un
  | true =>
   have he:=r4 hW
   have hk3:kind o.op≠3:=fun e=>hK ⟨o,ho,e⟩
   have hkle:=kind_le o
   by_cases hk2:kind o.op=2
   ·
    have hA:AAt ops R j:=⟨o,ho,hk2,hW⟩
    have he':=he
    rw [← hev] at he'
    obtain ⟨l,hl,z,ob,n,m1,m2,m3⟩:=kind2 (w:=w) hρ hk2 he'
    have hnB:∀ H:Array Obj,H.size≤w.heap.size→Rel E' H X→Un E' X w.heap.size:=by
     intro H hle hrel
     refine hrel.un_fresh hle ?_
     rintro ⟨r,row,C,hr,hC,hb⟩
     obtain ⟨C',hC',hR'⟩:=hrel.rows _ _ hr
     rw [hC] at hC'; cases hC'
     have:=hR'.lt
     omega
    have hjp:p≤j:=by
     rcases Nat.lt_or_ge j p with h1 | h1
     ·exact absurd (h.gap.before j o h1 ho (by omega)) hj
     ·exact h1
    have h1:=((h.other ob).tell hj w.heap.size n z).congr (Pd':=fun i=>q≤i∨i=j) (fun i hd _=>⟨.inl,fun hh=>hh.resolve_right (fun e=>hj (e ▸ hd))⟩)
    have hsame:∀ l',(recAt R (j+1)).st=(recAt R j).st.newCe l'→l'=l:=by
     intro l' hl'
     have e1:=St.get_newCe (recAt R j).st l (recAt R j).st.next
     rw [← hl,hl',St.get_newCe,if_pos rfl,if_pos rfl] at e1
     cases e1; rfl
    have h2:=h1.add hs hR ho hj hK (z:=z) (fun hno=>absurd hA hno) (fun _=>by
     refine ⟨.inr rfl,by simp,?_,?_,?_,?_,?_,?_,?_⟩
     ·simp only [if_pos]; exact h.st.fr.size
     ·simp
     ·simp only [if_pos]; exact hnB w.heap (Nat.le_refl _) h.st.rel
     ·intro l' hl' g
      have:=hsame l' hl'
      subst this
      simp only [if_pos]
      exact m2 g
     ·intro F hF
      simp only [if_pos] at hF ⊢
      exact m3 F hF
     ·intro i hd ha hq
      have hne:i≠j:=fun e=>hj (e ▸ hd)
      have hq':q≤i:=hq.resolve_right hne
      have:=(h.pend i hd ha hq').2.1
      simp only [if_neg hne,if_pos]
      omega
     ·intro b ob' hb
      have:=(Array.getElem?_eq_some_iff.1 (h.xtra b ob' hb).2.1).1
      simp only [if_pos]
      omega)
    have hsteps:=value hW (z:=z) (w':={ w with heap:=w.heap.push ob }) he m1
    rcases Nat.lt_or_ge j q with hlt | hge
    ·obtain ⟨E3,X3,h3,l3⟩:=h2.reg hr0 hS.up hR (i:=j) hjp hlt hA (.inl rfl) (.inr rfl)
     refine ⟨p,q,_,{ w with heap:=w.heap.push ob },E3,X3,_,_,_,h3.congr fun i hd _=>⟨fun ⟨u,v⟩=>u.resolve_right v,fun u=>⟨.inl u,by omega⟩⟩,put_defers ..,⟨rfl,rfl⟩,⟨l3,hkeep z⟩,hsteps⟩
    ·exact ⟨p,q,_,{ w with heap:=w.heap.push ob },E',X,_,_,_,h2.congr fun i hd _=>⟨fun u=>u.elim id (fun e=>by omega),.inl⟩,put_defers ..,⟨rfl,rfl⟩,⟨.refl _,hkeep z⟩,hsteps⟩
   ·
    have hk01:kind o.op < 2:=by omega
    have hnA:¬ AAt ops R j:=fun ⟨o',h1,h2,_⟩=>by rw [ho] at h1; cases h1; omega
    have heX:evOp P S (recAt R j).t X o=some ((recAt R j).v,X):=by
     by_cases hk0:kind o.op=0
     ·obtain ⟨f,hf⟩:=kind0 (P:=P) (S:=S) (t:=(recAt R j).t) hk0
      rw [hf] at he ⊢
      rw [(give_spec he).1]; rfl
     ·have hk1:kind o.op=1:=by omega
      have hp:∃ u,evOp P S (recAt R j).t (recAt R p).st o=some ((recAt R j).v,u):=by
       rcases hL j p o ho hk1 hW h.gap.start with h1 | ⟨i,h1,h2,h3⟩ | ⟨h1,h2⟩ | h1
       ·exfalso
        rcases h.gap.start with h0 | ⟨kk,h0,hKk⟩
        ·rw [h0] at h1; cases h1
        ·rw [h0] at h1
         have hb:(numAt bs kk).testBit j=true:=h1
         obtain ⟨ok,hok,hkk⟩:=hKk
         exact hj (hdown kk (h.gap.before kk ok (by omega) hok (by omega)) j hb)
       ·exfalso
        have hDi:=hrdy i h3
        rcases Nat.lt_or_ge i q with h4 | h4
        ·exact h.gap.noK i h2 h4 h1
        ·exact h.gap.after i h4 h1 hDi
       ·rw [← calm_st hR j h1 (Nat.le_of_lt hjn) h2]; exact ⟨_,he⟩
       ·exact h1
      obtain ⟨u,hu⟩:=hp
      exact kind1 hk1 (h.sub hS.up hR) hu
    have heX':=heX
    rw [← hev] at heX'
    obtain ⟨z,m1,m2⟩:=op01 h.st.rel hρ hk01 heX'
    exact ⟨p,q,_,w,E',X,β,ν,ζ,h.add hs hR ho hj hK (z:=z) (fun _=>m2) (fun ha=>absurd ha hnA),put_defers ..,⟨rfl,rfl⟩,⟨.refl _,hkeep z⟩,value hW heX m1⟩
end
end
end Go.Ev
