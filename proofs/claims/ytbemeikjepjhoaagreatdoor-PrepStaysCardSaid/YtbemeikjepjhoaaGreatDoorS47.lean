/-
  What the preparation makes is normal; and how great it is. · Prepared again, it is the same but for the bound names. · A program that may be: what the preparation makes of it, and of that. · Exprs; and Check asked from outside.
-/
import Derived.Test.YtbemeikjepjhoaaGreatDoorS45
import Derived.Test.YtbemeikjepjhoaaGreatDoorS46
namespace Go.Proofs.YtbemeikjepjhoaaGreatDoor
open Go.Ev
set_option maxRecDepth 100000
noncomputable section
theorem nrm_wrap {late:ExL} {out:Ex} (h1:nrm strF out=true) (h2:nrmK strF late=true):nrm strF (wrapE late out)=true:=by
 cases late with
 | nil f=>exact h1
 | cons p x l=>simp [wrapE,nrm,nrmA,nrmK,firstK,h1] at h2 ⊢; exact .inr h2
section
variable (T : List Str) (C : Str → Option AV)
mutual
theorem prepE_nrm:∀ (x:Ex) (S:Sco) (n:Nat) (sc:List (List Str)),okE C x sc=true→nrm strF (prepE T x S n).1=true
 | .mk k nm num ps b a l,S,n,sc,h=>by
  simp only [okE,Bool.and_eq_true] at h
  obtain ⟨hh,oa,ob,ol⟩:=h
  have F:=head_facts hh
  unfold prepE
  by_cases h1:k=1
  ·rw [if_pos h1]
   simp [nrm,atomK]
  ·rw [if_neg h1]
   simp only
   generalize withN T S (txsOf ps) n=w1
   generalize withN T w1.1 b.names w1.2.2=w2
   have HB:=prepB_nrm b w2.1 w2.2.1 w2.2.2 _ ob
   generalize prepB T b w2.1 w2.2.1 w2.2.2=rb at *
   have dl:=prepA_len (T:=T) a w2.1 (strictK strF k nm a.len) 0 rb.2
   have HA:=prepA_nrm a w2.1 (strictK strF k nm a.len) (firstK strF k nm a.len) 0 rb.2 _ oa (fun j _ hj hk=>by
    unfold firstK
    split
    ·have:=F.a1 ‹_›; omega
    ·exact hk)
   generalize prepA T a w2.1 (strictK strF k nm a.len) 0 rb.2=ra at *
   have HL:=prepL_nrm l w2.1 ra.2.2 _ ol
   generalize prepL T l w2.1 ra.2.2=rl at *
   refine nrm_wrap ?_ HA.2
   simp only [nrm,Bool.or_eq_true,Bool.and_eq_true,decide_eq_true_eq]
   right
   rw [dl]
   exact ⟨⟨F.lo,F.hi⟩,HA.1,HB,HL⟩
theorem prepB_nrm:∀ (l:ExL) (S:Sco) (ns:List Str) (n:Nat) (sc:List (List Str)),okL C l sc=true→nrmK strF (prepB T l S ns n).1=true
 | .nil _,_,_,_,_,_=>by simp only [prepB,nrmK]
 | .cons p x l,S,ns,n,sc,h=>by
  simp only [okL,Bool.and_eq_true] at h
  simp only [prepB,nrmK,Bool.and_eq_true]
  exact ⟨prepE_nrm x S n sc h.1,prepB_nrm l S ns.tail _ sc h.2⟩
theorem prepA_nrm:∀ (l:ExL) (S:Sco) (k f:Int) (i n:Nat) (sc:List (List Str)),okL C l sc=true→(∀ j:Nat,i≤j→j < i+l.len→(j:Int) < k→(j:Int) < f)→nrmA strF f i (prepA T l S k i n).1=true∧nrmK strF (prepA T l S k i n).2.1=true
 | .nil _,_,_,_,_,_,_,_,_=>by simp only [prepA,nrmA,nrmK]; exact ⟨trivial,trivial⟩
 | .cons p x l,S,k,f,i,n,sc,h,hf=>by
  simp only [okL,Bool.and_eq_true] at h
  simp only [ExL.len] at hf
  have e1:=prepE_nrm x S n sc h.1
  by_cases hc:k≤(i:Int)∧(prepE T x S n).1.atom=false
  ·rw [prepA_late T hc]
   obtain ⟨q1,q2⟩:=prepA_nrm l S k f (i+1) (nxt T (prepE T x S n).2) sc h.2 (fun j h1 h2 h3=>hf j (by omega) (by omega) h3)
   simp only [nrmA,nrmK,Bool.and_eq_true,Bool.or_eq_true,decide_eq_true_eq]
   exact ⟨⟨.inr rfl,by simp [varE,nrm,atomK],q1⟩,e1,q2⟩
  ·rw [prepA_keep T hc]
   obtain ⟨q1,q2⟩:=prepA_nrm l S k f (i+1) (prepE T x S n).2 sc h.2 (fun j h1 h2 h3=>hf j (by omega) (by omega) h3)
   simp only [nrmA,Bool.and_eq_true,Bool.or_eq_true,decide_eq_true_eq]
   refine ⟨⟨?_,e1,q1⟩,q2⟩
   by_cases hk:k≤(i:Int)
   ·right
    cases ha:(prepE T x S n).1.atom with
    | true=>rfl
    | false=>exact absurd ⟨hk,ha⟩ hc
   ·left
    exact hf i (Nat.le_refl _) (by omega) (by omega)
theorem prepL_nrm:∀ (l:ExL) (S:Sco) (n:Nat) (sc:List (List Str)),okA C l sc=true→nrmK strF (prepL T l S n).1=true
 | .nil _,_,_,_,_=>by simp only [prepL,nrmK]
 | .cons p x l,S,n,sc,h=>by
  simp only [okA,Bool.and_eq_true] at h
  simp only [prepL,nrmK,Bool.and_eq_true]
  exact ⟨prepE_nrm x _ _ _ h.1,prepL_nrm l S _ sc h.2⟩
end
mutual
theorem prepE_size:∀ (x:Ex) (S:Sco) (n:Nat),(prepE T x S n).1.size+1≤4 * x.size
 | .mk k nm num ps b a l,S,n=>by
  unfold prepE
  by_cases h1:k=1
  ·rw [if_pos h1]
   simp only [Ex.size,ExL.size]
   omega
  ·rw [if_neg h1]
   simp only
   generalize withN T S (txsOf ps) n=w1
   generalize withN T w1.1 b.names w1.2.2=w2
   have HB:=prepB_size b w2.1 w2.2.1 w2.2.2
   generalize prepB T b w2.1 w2.2.1 w2.2.2=rb at *
   have HA:=prepA_size a w2.1 (strictK strF k nm a.len) 0 rb.2
   generalize prepA T a w2.1 (strictK strF k nm a.len) 0 rb.2=ra at *
   have HL:=prepL_size l w2.1 ra.2.2
   generalize prepL T l w2.1 ra.2.2=rl at *
   have hw:∀ (late:ExL) (out:Ex),(wrapE late out).size≤1+late.size+out.size:=fun late out=>by
    cases late with
    | nil f=>simp only [wrapE,ExL.size]; omega
    | cons p x l=>simp only [wrapE,Ex.size,ExL.size]; omega
   have:=hw ra.2.1 (.mk k nm num (slN w1.2.1) rb.1 ra.1 rl.1)
   simp only [Ex.size] at this ⊢
   omega
theorem prepB_size:∀ (l:ExL) (S:Sco) (ns:List Str) (n:Nat),(prepB T l S ns n).1.size≤4 * l.size
 | .nil _,_,_,_=>by simp only [prepB,ExL.size]; omega
 | .cons p x l,S,ns,n=>by
  have h1:=prepE_size x S n
  have h2:=prepB_size l S ns.tail (prepE T x S n).2
  simp only [prepB,ExL.size]
  omega
theorem prepA_size:∀ (l:ExL) (S:Sco) (k:Int) (i n:Nat),(prepA T l S k i n).1.size+(prepA T l S k i n).2.1.size≤4 * l.size
 | .nil _,_,_,_,_=>by simp only [prepA,ExL.size]; omega
 | .cons p x l,S,k,i,n=>by
  have h1:=prepE_size x S n
  by_cases hc:k≤(i:Int)∧(prepE T x S n).1.atom=false
  ·rw [prepA_late T hc]
   have h2:=prepA_size l S k (i+1) (nxt T (prepE T x S n).2)
   simp only [ExL.size,varE,Ex.size]
   omega
  ·rw [prepA_keep T hc]
   have h2:=prepA_size l S k (i+1) (prepE T x S n).2
   simp only [ExL.size]
   omega
theorem prepL_size:∀ (l:ExL) (S:Sco) (n:Nat),(prepL T l S n).1.size≤4 * l.size
 | .nil _,_,_=>by simp only [prepL,ExL.size]; omega
 | .cons p x l,S,n=>by
  simp only [prepL,ExL.size]
  have h1:=prepE_size x (withN T S (altH (p,x)).vs n).1 (withN T S (altH (p,x)).vs n).2.2
  have h2:=prepL_size l S (prepE T x (withN T S (altH (p,x)).vs n).1 (withN T S (altH (p,x)).vs n).2.2).2
  omega
end
end
theorem altsGo_vs {C:Str→Option AV} (hC:∀ s v,C s=some v→conAr v≤32):∀ {H pre:List AltH} {kind:Int} {typ:Str} {sm:Bool} {seen:List Str},altsGo C pre H kind typ sm seen=true→∀ a ∈ H,a.vs.length≤32
 | [],_,_,_,_,_,_,a,ha=>(List.not_mem_nil ha).elim
 | x :: l,pre,kind,typ,sm,seen,h,a,ha=>by
  unfold altsGo at h
  simp only [Bool.and_eq_true] at h
  obtain ⟨-,h1,h2,h3⟩:=h
  have key:x.vs.length≤32∧∃ kind typ sm seen,altsGo C (pre++[x]) l kind typ sm seen=true:=by
   by_cases k4:x.k=4
   ·rw [if_pos k4] at h3
    simp only [Bool.and_eq_true,decide_eq_true_eq] at h3
    exact ⟨by omega,_,_,_,_,h3.2.2.2.2⟩
   ·rw [if_neg k4] at h3
    rw [Bool.and_eq_true] at h3
    obtain ⟨-,h3⟩:=h3
    by_cases k1:x.k≠1
    ·rw [if_pos k1] at h3
     simp only [Bool.and_eq_true,decide_eq_true_eq] at h3
     exact ⟨by omega,_,_,_,_,h3.2.2.2.2⟩
    ·rw [if_neg k1] at h3
     simp only [Bool.and_eq_true] at h3
     have h4:=h3.2.2.2
     cases hc:C x.n with
     | none=>rw [hc] at h4; cases h4
     | some v =>
      rw [hc] at h4
      simp only [Bool.and_eq_true,decide_eq_true_eq] at h4
      have:=hC _ _ hc
      exact ⟨by omega,_,_,_,_,h4.2.2⟩
  obtain ⟨g1,k',t',s',e',g2⟩:=key
  rcases List.mem_cons.1 ha with rfl | ha
  ·exact g1
  ·exact altsGo_vs hC g2 a ha
mutual
theorem okE_wt (C : Str → Option AV) (hC : ∀ s v, C s = some v → conAr v ≤ 32):∀ (x:Ex) (sc:List (List Str)),okE C x sc=true→x.wt+32≤66 * x.size
 | .mk k nm num ps b a l,sc,h=>by
  simp only [okE,Bool.and_eq_true] at h
  obtain ⟨hh,oa,ob,ol⟩:=h
  have F:=head_facts hh
  have h1:=okL_wt C hC b _ ob
  have h2:=okL_wt C hC a _ oa
  have h3:l.wtA≤66 * l.size:=by
   by_cases k8:k=8
   ·have hA:altsOK C l.heads=true:=by
     subst k8
     unfold headOK at hh
     simp at hh
     exact hh.2.2
    unfold altsOK at hA
    rw [Bool.and_eq_true] at hA
    have:=altsGo_vs hC hA.2
    exact okA_wt C hC l _ ol (fun p hp=>this _ (by unfold ExL.heads; exact List.mem_map_of_mem hp))
   ·obtain ⟨f,hf⟩:=nil_of_len (F.l8 k8)
    subst hf
    simp only [ExL.wtA,ExL.size]; omega
  have:=F.p32
  simp only [Ex.wt,Ex.size]
  omega
theorem okL_wt (C : Str → Option AV) (hC : ∀ s v, C s = some v → conAr v ≤ 32):∀ (l:ExL) (sc:List (List Str)),okL C l sc=true→l.len+l.wt≤66 * l.size
 | .nil _,_,_=>by simp only [ExL.len,ExL.wt,ExL.size]; omega
 | .cons p x l,sc,h=>by
  simp only [okL,Bool.and_eq_true] at h
  have h1:=okE_wt C hC x sc h.1
  have h2:=okL_wt C hC l sc h.2
  simp only [ExL.len,ExL.wt,ExL.size]
  omega
theorem okA_wt (C : Str → Option AV) (hC : ∀ s v, C s = some v → conAr v ≤ 32):∀ (l:ExL) (sc:List (List Str)),okA C l sc=true→(∀ p ∈ l.list,(altH p).vs.length≤32)→l.wtA≤66 * l.size
 | .nil _,_,_,_=>by simp only [ExL.wtA,ExL.size]; omega
 | .cons p x l,sc,h,hv=>by
  simp only [okA,Bool.and_eq_true] at h
  have h1:=okE_wt C hC x _ h.1
  have h2:=okA_wt C hC l sc h.2 (fun q hq=>hv q (by simp only [ExL.list]; exact List.mem_cons_of_mem _ hq))
  have h3:=hv (p,x) (by simp only [ExL.list]; exact List.mem_cons_self)
  simp only [ExL.wtA,ExL.size]
  omega
end
mutual
theorem bnd_wt:∀ x:Ex,x.bnd.length≤x.wt
 | .mk k nm num ps b a l=>by
  have h1:=bndB_wt b
  have h2:=bnd0_wt a
  have h3:=bndL_wt l
  simp only [Ex.bnd,Ex.wt,List.length_append]
  omega
theorem bndB_wt:∀ l:ExL,l.bndB.length≤l.len+l.wt
 | .nil _=>by simp [ExL.bndB]
 | .cons p x l=>by
  have h1:=bnd_wt x
  have h2:=bndB_wt l
  simp only [ExL.bndB,ExL.len,ExL.wt,List.length_append,List.length_cons]
  omega
theorem bnd0_wt:∀ l:ExL,l.bnd0.length≤l.wt
 | .nil _=>by simp [ExL.bnd0]
 | .cons p x l=>by
  have h1:=bnd_wt x
  have h2:=bnd0_wt l
  simp only [ExL.bnd0,ExL.wt,List.length_append]
  omega
theorem bndL_wt:∀ l:ExL,l.bndL.length≤l.wtA
 | .nil _=>by simp [ExL.bndL]
 | .cons p x l=>by
  have h1:=bnd_wt x
  have h2:=bndL_wt l
  simp only [ExL.bndL,ExL.wtA,List.length_append]
  omega
end
mutual
theorem SameE.dims:∀ {x y:Ex} {p:Pairs},SameE p x y→x.size=y.size∧x.depth=y.depth
 | .mk k nm num ps b a l,.mk k' nm' num' ps' b' a' l',p,h=>by
  simp only [SameE] at h
  obtain ⟨-,h1,h2,h3⟩:=h
  obtain ⟨a1,a2⟩:=h1.dims
  obtain ⟨b1,b2⟩:=h2.dims
  obtain ⟨c1,c2⟩:=h3.dims
  simp only [Ex.size,Ex.depth]
  omega
theorem SameA.dims:∀ {l m:ExL} {p:Pairs},SameA p l m→l.size=m.size∧l.depth=m.depth
 | .nil _,.nil _,_,_=>⟨by simp only [ExL.size],by simp only [ExL.depth]⟩
 | .cons _ x l,.cons _ y m,p,h=>by
  simp only [SameA] at h
  obtain ⟨a1,a2⟩:=h.1.dims
  obtain ⟨b1,b2⟩:=h.2.dims
  simp only [ExL.size,ExL.depth]
  omega
 | .nil _,.cons _ _ _,_,h=>by simp only [SameA] at h
 | .cons _ _ _,.nil _,_,h=>by simp only [SameA] at h
theorem SameL.dims:∀ {l m:ExL} {p:Pairs},SameL p l m→l.size=m.size∧l.depth=m.depth
 | .nil _,.nil _,_,_=>⟨by simp only [ExL.size],by simp only [ExL.depth]⟩
 | .cons _ x l,.cons _ y m,p,h=>by
  simp only [SameL] at h
  obtain ⟨a1,a2⟩:=h.2.1.dims
  obtain ⟨b1,b2⟩:=h.2.2.dims
  simp only [ExL.size,ExL.depth]
  omega
 | .nil _,.cons _ _ _,_,h=>by simp only [SameL] at h
 | .cons _ _ _,.nil _,_,h=>by simp only [SameL] at h
end
end
end Go.Proofs.YtbemeikjepjhoaaGreatDoor
namespace Go.Proofs.YtbemeikjepjhoaaGreatDoor
open Go.Ev
set_option maxRecDepth 100000
noncomputable section
theorem alikeB_skip {p:Pairs} {s y:Str}:∀ {M:Pairs},(∀ q ∈ M,q.1≠s∧q.2≠y)→alikeB (M++p) s y=alikeB p s y
 | [],_=>rfl
 | (u,v) :: M,h=>by
  have h1:=h _ List.mem_cons_self
  rw [List.cons_append,alikeB_cons,if_neg (by simp only at h1; exact fun hh=>hh.elim h1.1 h1.2)]
  exact alikeB_skip fun q hq=>h q (List.mem_cons_of_mem _ hq)
theorem alikeB_hit {p:Pairs} {s y:Str}:∀ {M:Pairs},(s,y) ∈ M→(∀ q ∈ M,q.1=s∨q.2=y→q=(s,y))→alikeB (M++p) s y=true
 | [],h,_=>(List.not_mem_nil h).elim
 | (u,v) :: M,h,hu=>by
  rw [List.cons_append,alikeB_cons]
  by_cases hc:u=s∨v=y
  ·rw [if_pos hc]
   have:=hu _ List.mem_cons_self hc
   simp only [Prod.mk.injEq] at this
   simp [this.1,this.2]
  ·rw [if_neg hc]
   rcases List.mem_cons.1 h with h | h
   ·simp only [Prod.mk.injEq] at h
    exact absurd (.inl h.1.symm) hc
   ·exact alikeB_hit h fun q hq=>hu q (List.mem_cons_of_mem _ hq)
theorem withPr_skip {p:Pairs} {A B:List Str} {s y:Str} (h1:s ∉ A) (h2:y ∉ B):alikeB (withPr p A B) s y=alikeB p s y:=by
 refine alikeB_skip fun q hq=>?_
 rw [List.mem_reverse] at hq
 obtain ⟨u,v⟩:=q
 have:=List.of_mem_zip hq
 exact ⟨fun h=>h1 (h ▸ this.1),fun h=>h2 (h ▸ this.2)⟩
theorem withPr_hit {p:Pairs} {A B:List Str} (hA:A.Nodup) (hB:B.Nodup) {i:Nat} (h:i < A.length) (h':i < B.length):alikeB (withPr p A B) A[i] B[i]=true:=by
 refine alikeB_hit ?_ fun q hq hc=>?_
 ·rw [List.mem_reverse]
  have hz:i < (A.zip B).length:=by rw [List.length_zip]; omega
  have:=List.getElem_mem hz
  rwa [List.getElem_zip] at this
 ·rw [List.mem_reverse] at hq
  obtain ⟨j,hj,rfl⟩:=List.getElem_of_mem hq
  rw [List.length_zip] at hj
  rw [List.getElem_zip] at hc ⊢
  rcases hc with hc | hc
  ·have:=(List.getElem_inj hA).1 hc
   subst this; rfl
  ·have:=(List.getElem_inj hB).1 hc
   subst this; rfl
section
variable (T : List Str)
def Old (n:Nat) (y:Str):Prop:=y ∈ T∨∃ m,m≤n∧y=pname m
theorem Old.not {n k:Nat} {y:Str} {L:List Str} (h:Old T n y) (g:InR T n k L):y ∉ L:=by
 intro hy
 obtain ⟨m,h1,-,h3,h4⟩:=g.2 y hy
 rcases h with h | ⟨m',h5,h6⟩
 ·exact h4 h
 ·rw [h3] at h6
  have:=pname_inj h6
  omega
def Inv (S:Sco) (n:Nat) (p:Pairs) (sc:List (List Str)):Prop:=∀ s,hasB sc s=true→alikeB p s ((S s).getD s)=true∧Old T n ((S s).getD s)
theorem Inv.mono {S:Sco} {n n':Nat} {p:Pairs} {sc sc':List (List Str)} (h:Inv T S n p sc) (hn:n≤n') (hs:∀ s,hasB sc' s=true→hasB sc s=true):Inv T S n' p sc':=fun s h1=>by
 obtain ⟨a,b⟩:=h s (hs s h1)
 refine ⟨a,?_⟩
 rcases b with b | ⟨m,b1,b2⟩
 ·exact .inl b
 ·exact .inr ⟨m,by omega,b2⟩
theorem Inv.with {S:Sco} {n:Nat} {p:Pairs} {sc:List (List Str)} (h:Inv T S n p sc) {l:List Str} (hd:l.Nodup):Inv T (withN T S l n).1 (withN T S l n).2.2 (withPr p l (withN T S l n).2.1) (l :: sc):=by
 obtain ⟨h1,h2,h3,h4,h5,h6⟩:=withN_spec T l S n
 have h6:=h6 hd
 intro s hs
 rw [hasB_cons] at hs
 by_cases hl:s ∈ l
 ·obtain ⟨i,hi,rfl⟩:=List.getElem_of_mem hl
  have hi':i < (withN T S l n).2.1.length:=by omega
  rw [h6 i hi hi']
  refine ⟨withPr_hit hd h3.1 hi hi',.inr ?_⟩
  obtain ⟨m,-,m2,m3,-⟩:=h3.2 _ (List.getElem_mem hi')
  exact ⟨m,m2,m3⟩
 ·obtain ⟨a,b⟩:=h s (hs.resolve_left hl)
  rw [h4 s hl]
  refine ⟨by rw [withPr_skip hl (Old.not T b h3)]; exact a,?_⟩
  rcases b with b | ⟨m,b1,b2⟩
  ·exact .inl b
  ·exact .inr ⟨m,by omega,b2⟩
end
theorem inner_sub {k:Int} {ps:List Str} {b:ExL} {sc:List (List Str)}:∀ s,hasB (innerS k ps b sc) s=true→hasB (b.names :: ps :: sc) s=true:=by
 intro s hs
 unfold innerS at hs
 rw [hasB_cons,hasB_cons]
 split at hs
 ·exact .inr ((hasB_cons _ _ _).1 hs)
 ·split at hs
  ·rcases (hasB_cons _ _ _).1 hs with h | h
   ·exact .inl h
   ·exact .inr (.inr h)
  ·exact .inr (.inr hs)
theorem names_bndB {l:ExL} {s:Str} (h:s ∈ l.names):s ∈ l.bndB:=(bndB_perm l).mem_iff.2 (List.mem_append_left _ h)
theorem bnd0_bndB {l:ExL} {s:Str} (h:s ∈ l.bnd0):s ∈ l.bndB:=(bndB_perm l).mem_iff.2 (List.mem_append_right _ h)
section
variable (T : List Str) (C : Str → Option AV)
theorem prepE_atom {x:Ex} {S:Sco} {n:Nat} {sc:List (List Str)} (h:okE C x sc=true) (ha:x.atom=true):(prepE T x S n).1.atom=true:=by
 obtain ⟨k,nm,num,ps,b,a,l⟩:=x
 simp only [okE,Bool.and_eq_true] at h
 have F:=head_facts h.1
 unfold prepE
 by_cases h1:k=1
 ·rw [if_pos h1]; rfl
 ·rw [if_neg h1]
  have h2:k=2∨k=3:=by
   have ha':atomK k=true:=ha
   unfold atomK at ha'
   simp only [Bool.or_eq_true,decide_eq_true_eq] at ha'
   omega
  simp only
  rw [prepA_none T a _ _ 0 _ (by
   unfold strictK
   rw [if_neg (by omega),if_neg (by omega),if_neg (by omega)]
   omega)]
  exact ha
mutual
theorem sameE_prep:∀ (x:Ex) (S:Sco) (n:Nat) (p:Pairs) (sc:List (List Str)),okE C x sc=true→nrm strF x=true→x.bnd.Nodup→(∀ s ∈ x.bnd,hasB sc s=false)→Inv T S n p sc→SameE p x (prepE T x S n).1
 | .mk k nm num ps b a l,S,n,p,sc,h,hn,hd,hs,hI=>by
  simp only [okE,Bool.and_eq_true] at h
  obtain ⟨hh,oa,ob,ol⟩:=h
  have F:=head_facts hh
  unfold prepE
  by_cases h1:k=1
  ·rw [if_pos h1]
   subst h1
   have q1:=F.p5 (by decide)
   have q2:=F.b7 (by decide)
   have q3:=F.l8 (by decide)
   have q4:=F.a0 (.inl rfl)
   obtain ⟨f1,e1⟩:=nil_of_len q2
   obtain ⟨f2,e2⟩:=nil_of_len q3
   obtain ⟨f3,e3⟩:=nil_of_len q4
   unfold headOK at hh
   rw [if_pos rfl] at hh
   simp only [Bool.and_eq_true] at hh
   subst e1 e2 e3
   simp only [SameE,SameA,SameL,and_true,ExL.len,if_true,true_and]
   exact ⟨by rw [q1]; rfl,(hI nm hh.2.2).1⟩
  ·rw [if_neg h1]
   simp only
   simp only [Ex.bnd] at hd hs
   rw [List.nodup_append] at hd
   obtain ⟨d1,d2,d3⟩:=hd
   rw [List.nodup_append] at d2
   obtain ⟨d4,d5,d6⟩:=d2
   rw [List.nodup_append] at d5
   obtain ⟨d7,d8,d9⟩:=d5
   have db:=(bndB_perm b).nodup_iff.1 d4
   rw [List.nodup_append] at db
   obtain ⟨db1,db2,db3⟩:=db
   have I1:=Inv.with T hI d1
   have W1:=withN_spec T (txsOf ps) S n
   generalize withN T S (txsOf ps) n=w1 at *
   have I2:=Inv.with T I1 db1
   have W2:=withN_spec T b.names w1.1 w1.2.2
   generalize withN T w1.1 b.names w1.2.2=w2 at *
   obtain ⟨a1,a2,a3,-⟩:=W1
   obtain ⟨b1,b2,b3,-⟩:=W2
   rw [names_len] at b2
   obtain ⟨q,hq⟩:∃ q,withPr (withPr p (txsOf ps) w1.2.1) b.names w2.2.1=q:=⟨_,rfl⟩
   rw [hq] at I2
   have II:=Inv.mono T I2 (Nat.le_refl _) (inner_sub (k:=k) (ps:=txsOf ps) (b:=b) (sc:=sc))
   have IL:=Inv.mono T I2 (Nat.le_refl _) (sc':=sc) (fun s hs=>hasB_weak (hasB_weak hs))
   have c3:=prepB_names T b w2.1 w2.2.1 w2.2.2 (by omega)
   rw [List.take_of_length_le (by omega)] at c3
   have cl:=prepB_len (T:=T) b w2.1 w2.2.1 w2.2.2
   have cn:=(prepB_in T b w2.1 w2.2.1 w2.2.2).1
   simp only [nrm,Bool.or_eq_true,Bool.and_eq_true,decide_eq_true_eq] at hn
   have out:∀ s,s ∉ b.names→s ∉ txsOf ps→hasB sc s=false→hasB (innerS k (txsOf ps) b sc) s=false:=fun s h1 h2 h3=>by
    rw [Bool.eq_false_iff]
    intro hc
    have:=inner_sub s hc
    rw [hasB_cons,hasB_cons,h3] at this
    rcases this with h | h | h
    ·exact h1 h
    ·exact h2 h
    ·cases h
   have HB:=fun hnb:nrmK strF b=true=>sameB_prep b w2.1 w2.2.1 w2.2.2 q _ ob hnb db2 (fun s hs'=>out s (fun hh=>db3 _ hh _ hs' rfl) (fun hh=>d3 _ hh _ (List.mem_append_left _ (bnd0_bndB hs')) rfl) (hs s (List.mem_append_right _ (List.mem_append_left _ (bnd0_bndB hs'))))) II
   generalize prepB T b w2.1 w2.2.1 w2.2.2=rb at *
   have dl:=prepA_len (T:=T) a w2.1 (strictK strF k nm a.len) 0 rb.2
   have dn:=(prepA_in T a w2.1 (strictK strF k nm a.len) 0 rb.2).1
   have HA:=fun hna:nrmA strF (firstK strF k nm a.len) 0 a=true=>sameA_prep a w2.1 (strictK strF k nm a.len) (firstK strF k nm a.len) 0 rb.2 q _ oa hna (fun j _ hj hk=>by
    unfold firstK at hk
    split at hk
    ·rename_i h578
     unfold strictK
     rw [if_neg (by omega),if_neg (by omega),if_neg (by omega)]
     omega
    ·exact hk) d7 (fun s hs'=>out s (fun hh=>d6 _ (names_bndB hh) _ (List.mem_append_left _ hs') rfl) (fun hh=>d3 _ hh _ (List.mem_append_right _ (List.mem_append_left _ hs')) rfl) (hs s (List.mem_append_right _ (List.mem_append_right _ (List.mem_append_left _ hs'))))) (Inv.mono T II cn (fun s h=>h))
   have ZA:a.len=0→(prepA T a w2.1 (strictK strF k nm a.len) 0 rb.2).2.1 = .nil true:=fun h=>by
    obtain ⟨f,rfl⟩:=nil_of_len h
    simp only [prepA]
   generalize prepA T a w2.1 (strictK strF k nm a.len) 0 rb.2=ra at *
   have el:=prepL_len (T:=T) l w2.1 ra.2.2
   have HL:=fun hnl:nrmK strF l=true=>sameL_prep l w2.1 ra.2.2 q sc ol hnl d8 (fun s hs'=>hs s (List.mem_append_right _ (List.mem_append_right _ (List.mem_append_right _ hs')))) (Inv.mono T IL (by omega) (fun s h=>h))
   generalize prepL T l w2.1 ra.2.2=rl at *
   have fin:SameA q a ra.1∧SameA q b rb.1∧SameL q l rl.1∧ra.2.1 = .nil true:=by
    rcases hn with hn | ⟨-,hn1,hn2,hn3⟩
    ·have h23:k=2∨k=3:=by
      simp [atomK] at hn
      omega
     have q2:=F.b7 (by omega)
     have q3:=F.l8 (by omega)
     have q4:=F.a0 (.inr h23)
     obtain ⟨f1,e1⟩:=nil_of_len q2
     obtain ⟨f2,e2⟩:=nil_of_len q3
     obtain ⟨f3,e3⟩:=nil_of_len q4
     have za:=ZA q4
     obtain ⟨f4,e4⟩:=nil_of_len (l:=rb.1) (by omega)
     obtain ⟨f5,e5⟩:=nil_of_len (l:=ra.1) (by omega)
     obtain ⟨f6,e6⟩:=nil_of_len (l:=rl.1) (by omega)
     rw [e1,e2,e3,e4,e5,e6]
     simp only [SameA,SameL]
     exact ⟨trivial,trivial,trivial,za⟩
    ·obtain ⟨A1,A2⟩:=HA hn1
     exact ⟨A1,HB hn2,HL hn3,A2⟩
   obtain ⟨g1,g2,g3,g4⟩:=fin
   rw [g4]
   simp only [wrapE,SameE,txsOf_slN,c3,hq]
   exact ⟨⟨trivial,trivial,a2.symm,cl.symm,dl.symm,el.symm,by simp [h1]⟩,g1,g2,g3⟩
theorem sameB_prep:∀ (l:ExL) (S:Sco) (ns:List Str) (n:Nat) (p:Pairs) (sc:List (List Str)),okL C l sc=true→nrmK strF l=true→l.bnd0.Nodup→(∀ s ∈ l.bnd0,hasB sc s=false)→Inv T S n p sc→SameA p l (prepB T l S ns n).1
 | .nil _,_,_,_,_,_,_,_,_,_,_=>by simp only [prepB,SameA]; try trivial
 | .cons q x l,S,ns,n,p,sc,h,hn,hd,hs,hI=>by
  simp only [okL,Bool.and_eq_true] at h
  simp only [nrmK,Bool.and_eq_true] at hn
  simp only [ExL.bnd0] at hd hs
  rw [List.nodup_append] at hd
  have i1:=(prepE_in T x S n).1
  simp only [prepB,SameA]
  exact ⟨sameE_prep x S n p sc h.1 hn.1 hd.1 (fun s hh=>hs s (List.mem_append_left _ hh)) hI,sameB_prep l S ns.tail _ p sc h.2 hn.2 hd.2.1 (fun s hh=>hs s (List.mem_append_right _ hh)) (Inv.mono T hI i1 (fun s h=>h))⟩
theorem sameA_prep:∀ (l:ExL) (S:Sco) (k f:Int) (i n:Nat) (p:Pairs) (sc:List (List Str)),okL C l sc=true→nrmA strF f i l=true→(∀ j:Nat,i≤j→j < i+l.len→(j:Int) < f→(j:Int) < k)→l.bnd0.Nodup→(∀ s ∈ l.bnd0,hasB sc s=false)→Inv T S n p sc→SameA p l (prepA T l S k i n).1∧(prepA T l S k i n).2.1 = .nil true
 | .nil _,_,_,_,_,_,_,_,_,_,_,_,_,_=>by simp only [prepA,SameA]; exact ⟨trivial,trivial⟩
 | .cons q x l,S,k,f,i,n,p,sc,h,hn,hf,hd,hs,hI=>by
  simp only [okL,Bool.and_eq_true] at h
  simp only [nrmA,Bool.and_eq_true,Bool.or_eq_true,decide_eq_true_eq] at hn
  simp only [ExL.len] at hf
  simp only [ExL.bnd0] at hd hs
  rw [List.nodup_append] at hd
  have i1:=(prepE_in T x S n).1
  have hc:¬ (k≤(i:Int)∧(prepE T x S n).1.atom=false):=by
   rintro ⟨c1,c2⟩
   rcases hn.1 with h1 | h1
   ·have:=hf i (Nat.le_refl _) (by omega) h1
    omega
   ·rw [prepE_atom T C h.1 h1] at c2
    cases c2
  rw [prepA_keep T hc]
  obtain ⟨q1,q2⟩:=sameA_prep l S k f (i+1) (prepE T x S n).2 p sc h.2 hn.2.2 (fun j h1 h2 h3=>hf j (by omega) (by omega) h3) hd.2.1 (fun s hh=>hs s (List.mem_append_right _ hh)) (Inv.mono T hI i1 (fun s h=>h))
  simp only [SameA]
  exact ⟨⟨sameE_prep x S n p sc h.1 hn.2.1 hd.1 (fun s hh=>hs s (List.mem_append_left _ hh)) hI,q1⟩,q2⟩
theorem sameL_prep:∀ (l:ExL) (S:Sco) (n:Nat) (p:Pairs) (sc:List (List Str)),okA C l sc=true→nrmK strF l=true→l.bndL.Nodup→(∀ s ∈ l.bndL,hasB sc s=false)→Inv T S n p sc→SameL p l (prepL T l S n).1
 | .nil _,_,_,_,_,_,_,_,_,_=>by simp only [prepL,SameL]; try trivial
 | .cons q x l,S,n,p,sc,h,hn,hd,hs,hI=>by
  simp only [okA,Bool.and_eq_true] at h
  simp only [nrmK,Bool.and_eq_true] at hn
  simp only [ExL.bndL] at hd hs
  rw [List.nodup_append] at hd
  obtain ⟨d1,d2,d3⟩:=hd
  rw [List.nodup_append] at d2
  obtain ⟨d4,d5,d6⟩:=d2
  have hv:(altH (q,x)).vs=txsOf (q.getD 3 .un):=rfl
  have I1:=Inv.with T hI d1
  have W:=withN_spec T (altH (q,x)).vs S n
  simp only [prepL]
  generalize withN T S (altH (q,x)).vs n=w at *
  obtain ⟨w1,w2,w3,-⟩:=W
  have i1:=(prepE_in T x w.1 w.2.2).1
  have h1:(altH ([.i .i64 (altH (q,x)).k,.s (altH (q,x)).n,.i .i64 (altH (q,x)).m,slN w.2.1],(prepE T x w.1 w.2.2).1))=⟨(altH (q,x)).k,(altH (q,x)).n,(altH (q,x)).m,w.2.1⟩:=by
   simp [altH,txsOf_slN,intOf,txOf]
  simp only [SameL,h1]
  refine ⟨⟨trivial,trivial,trivial,w2.symm⟩,?_,?_⟩
  ·refine sameE_prep x w.1 w.2.2 _ _ h.1 hn.1 d4 (fun s hh=>?_) (by rw [← hv]; exact I1)
   rw [Bool.eq_false_iff]
   intro hc
   rw [← hv,hasB_cons,hs s (List.mem_append_right _ (List.mem_append_left _ hh))] at hc
   rcases hc with hc | hc
   ·exact d3 _ hc _ (List.mem_append_left _ hh) rfl
   ·cases hc
  ·exact sameL_prep l S _ p sc h.2 hn.2 d5 (fun s hh=>hs s (List.mem_append_right _ (List.mem_append_right _ hh))) (Inv.mono T hI (by omega) (fun s h=>h))
end
end
end
end Go.Proofs.YtbemeikjepjhoaaGreatDoor
namespace Go.Proofs.YtbemeikjepjhoaaGreatDoor
open Go.Ev
set_option maxRecDepth 100000
noncomputable section
theorem consF_ar:∀ {ds:List ConD},(∀ d ∈ ds,d.ar≤32)→∀ s v,consF ds s=some v→conAr v≤32
 | [],_,s,v,h=>by cases h
 | d :: ds,hd,s,v,h=>by
  unfold consF upd at h
  split at h
  ·cases h
   exact hd d List.mem_cons_self
  ·exact consF_ar (fun e he=>hd e (List.mem_cons_of_mem _ he)) s v h
theorem okP_ar {N:Nat} {cv:AV} {ds:List ConD} {b:ExL} (hv:IsCons cv ds) (hl:ds.length≤1000000) (hN:10000000000000000010≤N) (h:okP N cv ds b):∀ s v,consF ds s=some v→conAr v≤32:=by
 obtain ⟨fb,h1,h2⟩:=consFine_ar (c:=none) hv hl hN
 have h3:=h1 st0
 rw [h.1] at h3
 cases h3
 exact consF_ar (h2 rfl)
structure Made (N:Nat) (cv:AV) (ds:List ConD) (b:ExL):Prop where
 wt:b.len+b.wt≤66 * b.size
 pot:pot b.names 0≤b.len
 ok:okP N cv ds (pbOf b)
 names:(pbOf b).names=b.names
 nrm:nrmK strF (pbOf b)=true
 once:(b.names++(pbOf b).bnd0).Nodup
theorem made {N:Nat} {cv:AV} {ds:List ConD} {b:ExL} (hv:IsCons cv ds) (hl:ds.length≤1000000) (hN:10000000000000000010≤N) (h:okP N cv ds b) (hs:b.size≤14000):Made N cv ds b:=by
 have hC:=okP_ar hv hl hN h
 obtain ⟨h1,h2,h3,h4,h5⟩:=h
 have hw:=okL_wt _ hC b _ h4
 have hbl:=b.len_le
 have hpot:pot b.names 0≤b.len:=by
  have:=mu_len b.names (n:=0)
  rw [names_len] at this
  unfold Go.Proofs.YtbemeikjepjhoaaGreatDoor.pot
  omega
 have hn:(pbOf b).names=b.names:=by
  unfold pbOf
  rw [prepB_names _ b S0' b.names 0 (by rw [names_len]; exact Nat.le_refl _),← names_len,List.take_length]
 have hk:okL (consF ds) (pbOf b) [b.names]=true:=by
  unfold pbOf
  exact prepB_ok b.names _ b S0' b.names 0 [b.names] [b.names] h4 (fun s hs=>hs) (fun s y hs=>by cases hs) (by omega)
 obtain ⟨-,hI⟩:=prepB_in b.names b S0' b.names 0
 have hI':InR b.names 0 (prepB b.names b S0' b.names 0).2 (pbOf b).bnd0:=hI
 refine ⟨hw,hpot,⟨h1,by rw [hn]; exact h2,by rw [hn]; exact h3,by rw [hn]; exact hk,by rw [hn]; exact h5⟩,hn,prepB_nrm b.names (consF ds) b S0' b.names 0 _ h4,?_⟩
 rw [List.nodup_append]
 refine ⟨?_,hI'.1,fun x hx y hy=>?_⟩
 ·unfold namesOK at h2
  simp only [Bool.and_eq_true,decide_eq_true_eq] at h2
  exact h2.2
 ·rintro rfl
  obtain ⟨m,-,-,-,h6⟩:=hI'.2 _ hy
  exact h6 hx
theorem pb_size (b:ExL):(pbOf b).size≤4 * b.size:=prepB_size b.names b S0' b.names 0
theorem pb_ty {b:ExL} (h:b.Ty 1):(pbOf b).Ty 1:=prepB_ty b.names b S0' b.names 0 h
theorem again {N:Nat} {cv:AV} {ds:List ConD} {q:ExL} (h:okP N cv ds q) (hn:nrmK strF q=true) (hd:(q.names++q.bnd0).Nodup):SameA [] q (pbOf q):=by
 rw [List.nodup_append] at hd
 refine sameB_prep q.names (consF ds) q S0' q.names 0 [] [q.names] h.2.2.2.1 hn hd.2.1 (fun s hs=>?_) (fun s hs=>?_)
 ·rw [Bool.eq_false_iff]
  intro hc
  rw [hasB_cons] at hc
  rcases hc with hc | hc
  ·exact hd.2.2 _ hc _ hs rfl
  ·simp [hasB] at hc
 ·rw [hasB_cons] at hs
  refine ⟨by simp [S0',alikeB],.inl ?_⟩
  rcases hs with hc | hc
  ·exact hc
  ·simp [hasB] at hc
structure Whole (N:Nat) (cv:AV) (ds:List ConD) (b:ExL):Prop where
 potb:pot b.names 0+b.wt < 1000000
 okq:okP N cv ds (pbOf b)
 potq:pot (pbOf b).names 0+(pbOf b).wt < 1000000
 sq:(pbOf b).size≤12000
 okr:okP N cv ds (pbOf (pbOf b))
 fit:fitsP (pbOf (pbOf b))=fitsP (pbOf b)
 sr:(pbOf (pbOf b)).size≤12000
 same:SameA [] (pbOf b) (pbOf (pbOf b))
 nq:(pbOf b).names=b.names
 nr:(pbOf (pbOf b)).names=(pbOf b).names
 wq:(pbOf b).wt≤1000000
 nrm:nrmK strF (pbOf b)=true
 once:((pbOf b).names++(pbOf b).bnd0).Nodup
 few:(pbOf b).bnd0.length≤1000000
theorem whole {N:Nat} {cv:AV} {ds:List ConD} {b:ExL} (hv:IsCons cv ds) (hl:ds.length≤1000000) (hN:10000000000000000010≤N) (h:okP N cv ds b) (hs:b.size≤3000):Whole N cv ds b:=by
 obtain ⟨a1,a2,a3,a4,a5,a6⟩:=made hv hl hN h (by omega)
 have s1:=pb_size b
 have hbl:=b.len_le
 obtain ⟨b1,b2,b3,b4,b5,b6⟩:=made hv hl hN a3 (by omega)
 have hbl2:=(pbOf b).len_le
 have on:((pbOf b).names++(pbOf b).bnd0).Nodup:=by rw [a4]; exact a6
 have sm:=again a3 a5 on
 obtain ⟨d1,d2⟩:=sm.dims
 have few:=bnd0_wt (pbOf b)
 have hlen:(pbOf b).len=b.len:=by rw [← names_len,a4,names_len]
 exact ⟨by omega,a3,by omega,by omega,b3,by unfold fitsP; rw [d1,d2],by omega,sm,a4,b4,by omega,a5,on,by omega⟩
end
end Go.Proofs.YtbemeikjepjhoaaGreatDoor
namespace Go.Proofs.YtbemeikjepjhoaaGreatDoor
open Go.Ev
set_option maxRecDepth 100000
noncomputable section
variable {c : Option Self} {st : St}
def ExsRes (o:Option (AV × St)) (st:St) (b:ExL):Prop:=∃ (m:Nat) (s':St),o=some (.i .i64 (m:Int),s')∧Kp [] [] st s'∧(m≤3000→m=b.size)
def ExsC (v:AV) (b:ExL) (i:Nat):Prop:=∃ m:Nat,v = .i .i64 (m:Int)∧m≤3001∧(m≤3000→m=sumTo b.list i)
theorem exprs_call {cv:AV} {b:ExL} (hcs:cv.cells=some [cv]∧isSc cv=true∧pureV cv=true) (hb:b.Ty 1) {N:Nat} (hN:b.size+10≤N) :
  ExsRes ((Tw c N).call 5 [.ag [cv,b.slice 8],.i .i64 3000] st) st b:=by
 obtain ⟨N,rfl⟩:∃ N',N=N'+1:=⟨N - 1,by omega⟩
 rw [body_out rfl Tryz.func5 rfl (Nat.le_of_ble_eq_true rfl)]; unfold bodyR
 have hce:=newCe_ce (st:=st) [cv,b.slice 8]
 have hp:st.next < (st.newCe [cv,b.slice 8]).next:=Nat.lt_succ_self _
 have k0:Kp [] [] st (st.newCe [cv,b.slice 8]):=.newCe _ _ _
 obtain ⟨s0,hs0⟩:∃ s0,st.newCe [cv,b.slice 8]=s0:=⟨_,rfl⟩
 rw [hs0] at k0 hp hce
 have at1:∀ {s:St},Kp [] [] s0 s→rd s st.next 1 1=some [b.slice 8]:=fun kk=>by rw [rd_of (kk.ce hce hp hp (by simp) (by simp))]; rfl
 have vl:=fun st:St=>len_sl (st:=st) Tryz.underlying23 (b.slice_len 8) (b.slice_text 8)
 have hbl:=b.len_le
 simp [Tryz.f5,hs0,evC_loop]
 generalize hL:loopC _ _ _ _=Lo
 obtain ⟨t1,s1,rfl,kK,m,q5,q1,q2⟩:=loop_ex hL 0 b.list.length
  (fun i t s=>tget t 1 = .i .i64 3000∧tget t 2 = .p st.next 0∧tget t 6 = .i .i64 (i:Int)∧Kp [] [] s0 s∧ExsC (tget t 5) b i)
  (fun t s=>Kp [] [] s0 s∧ExsC (tget t 5) b b.list.length)
  (by rw [← ExL.len_eq]; omega)
  ⟨by simp,by simp,by simp,.refl _ _ _,0,by simp,by omega,fun _=>by rw [sumTo_zero]⟩
  (by
   rintro i t s hi ⟨i1,i2,i6,iK,m,i5,iM,iC⟩
   clear hL
   have hx:=at1 iK
   have hil:i < b.len:=by rw [ExL.len_eq]; exact hi
   have e5:(i:Int) < (b.len:Int):=by omega
   by_cases hm':m≤3000
   ·left
    have e6:(m:Int)≤3000:=by omega
    have e7:wr .i64 ((i:Int)+1)=((i+1:Nat):Int):=by
     have:=sumTo_ge b.list i (by omega)
     have:=iC hm'
     rw [wr_in (by omega) (by omega)]; rfl
    obtain ⟨r,r1,r2⟩:=part_at hb.pre (show preLen 1+7=8 from rfl) hi
    have ix:=index_rs (P:=Tryz.prog) Tryz.underlying23 inf42 sz42 b.flat b.len i hil
    rw [← ExL.slice_rs hil,r1] at ix
    have hmem:=List.getElem_mem hi
    have hsz':=ExL.size_mem hmem
    obtain ⟨m',s',g1,g2,g3,g4,g5⟩:=counted_call (c:=c) _ (ExL.ty_list hb _ hmem).2.wf m 3000 s N (by omega) (by omega) (by omega)
    have g1':(Tw c N).call 16 [.ag b.list[i].2.cells,.i .i64 (m:Int),.i .i64 3000] s=some (.i .i64 (m':Int),s'):=g1
    have r2':b.list[i].1.length=1:=r2
    have hd:(b.list[i].1++(b.list[i].2.cells++r)).drop 1=b.list[i].2.cells++r:=by rw [List.drop_append,r2']; simp [r2',List.drop_eq_nil_of_le]
    simp [i1,i2,i5,i6,off25_1,load_p inf23 ag23,hx,vl,e5,e6,ix,off42_1,hd,load_rpAg inf40 ag40,sz40,take_cells,callF_of Tryz.func16 rfl,g1',e7]
    refine ⟨_,_,⟨rfl,rfl⟩,by simp [i1],by simp [i2],by simp,iK.trans g2,m',by simp,by omega,fun h=>?_⟩
    rw [sumTo_succ hi,g5 h,iC hm']
   ·right
    have e6:¬ (m:Int)≤3000:=by omega
    simp [i1,i2,i5,i6,off25_1,load_p inf23 ag23,hx,vl,e5,e6]
    exact ⟨_,_,⟨rfl,rfl⟩,iK,m,by simp [i5],iM,fun h=>absurd h hm'⟩)
  (by
   rintro t s ⟨i1,i2,i6,iK,m,i5,iM,iC⟩
   clear hL
   have hx:=at1 iK
   simp [i2,i6,off25_1,load_p inf23 ag23,hx,vl,ExL.len_eq]
   exact ⟨_,_,⟨rfl,rfl⟩,iK,m,by simp [i5],iM,iC⟩)
 clear hL
 refine ⟨m,s1,?_,k0.trans kK,fun h=>?_⟩
 ·simp [q5,resOf_eq,pmapO]
 ·rw [q2 h,sumTo_all]
def C7 (N:Nat):Option Self:=some (Tw none (N+1))
theorem c7_ok (N:Nat):∀ S,C7 N=some S→SelfOK Tryz.prog S:=fun S h=>by
 cases h
 exact tw_ok (fun S h=>by cases h) _
theorem chk_is {cv:AV} {ds:List ConD} (hv:IsCons cv ds) (hl:ds.length≤1000000) {b:ExL} (hb:b.Ty 1) (hs:b.size≤1000000) {N:Nat} (hN:2 * b.size+10000000000000000100≤N) :
  ∃ e:Int,ChkIs (C7 N) cv b e∧(fitsP b=false→e=3)∧(fitsP b=true→(e=0↔okP N cv ds b)):=by
 obtain ⟨e,h1,h2,h3⟩:=check_body hv hl hb hs hN
 refine ⟨e,fun st x M hM hx=>?_,h2,h3⟩
 obtain ⟨M,rfl⟩:∃ M',M=M'+1:=⟨M - 1,by omega⟩
 have hp:pureL [AV.ag [cv,b.slice 8]]=true:=by simp [pureL,pureV,hv.pure,ExL.slice_pure hb 8]
 have h4:(Tw none (N+1)).call 7 [.ag [cv,b.slice 8]] st0=some (.i .i64 e,st0) :=
  body_v (X:=[]) rfl rfl (.inl rfl) (.pure hp) Tryz.func7 rfl (Nat.le_of_ble_eq_true rfl) rfl h1
 show (byF (fun f=>f == 7) (Tw none (N+1)) _).call 7 [x] st=_
 exact byF_in rfl (.cons hx .nil) h4 rfl
end
end Go.Proofs.YtbemeikjepjhoaaGreatDoor
