/-
  What the preparation binds: new names, each once. · What the preparation makes of a program that may be, may be too. · What the preparation makes of an expression that may be, may be too; and it is normal. · Prepared: a program that may be, is in normal form, and binds each name once.
-/
import Derived.Test.YtbemeikjepjhoaaGreatDoorS44
namespace Go.Proofs.YtbemeikjepjhoaaGreatDoor
open Go.Ev
set_option maxRecDepth 100000
noncomputable section
def InR (T:List Str) (n k:Nat) (L:List Str):Prop:=L.Nodup∧∀ s ∈ L,∃ m,n < m∧m≤k∧s=pname m∧s ∉ T
theorem InR.nil {T:List Str} {n k:Nat}:InR T n k []:=⟨List.nodup_nil,fun s h=>by cases h⟩
theorem InR.mono {T:List Str} {n k n' k':Nat} {L:List Str} (h:InR T n k L) (h1:n'≤n) (h2:k≤k'):InR T n' k' L :=
 ⟨h.1,fun s hs=>by obtain ⟨m,a,b,d,e⟩:=h.2 s hs; exact ⟨m,by omega,by omega,d,e⟩⟩
theorem InR.app {T:List Str} {n m k:Nat} {L M:List Str} (h:InR T n m L) (g:InR T m k M) (h1:n≤m) (h2:m≤k):InR T n k (L++M):=by
 refine ⟨List.nodup_append.2 ⟨h.1,g.1,fun a ha b hb=>?_⟩,fun s hs=>?_⟩
 ·obtain ⟨i,-,i2,i3,-⟩:=h.2 a ha
  obtain ⟨j,j1,-,j3,-⟩:=g.2 b hb
  rw [i3,j3]
  intro e
  have:=pname_inj e
  omega
 ·rcases List.mem_append.1 hs with hs | hs
  ·exact (h.mono (Nat.le_refl _) h2).2 s hs
  ·exact (g.mono h1 (Nat.le_refl _)).2 s hs
theorem InR.perm {T:List Str} {n k:Nat} {L M:List Str} (h:InR T n k L) (p:M.Perm L):InR T n k M :=
 ⟨p.nodup_iff.2 h.1,fun s hs=>h.2 s (p.mem_iff.1 hs)⟩
theorem InR.left {T:List Str} {n k:Nat} {L M:List Str} (h:InR T n k (L++M)):InR T n k L :=
 ⟨(List.nodup_append.1 h.1).1,fun s hs=>h.2 s (List.mem_append_left _ hs)⟩
theorem InR.right {T:List Str} {n k:Nat} {L M:List Str} (h:InR T n k (L++M)):InR T n k M :=
 ⟨(List.nodup_append.1 h.1).2.1,fun s hs=>h.2 s (List.mem_append_right _ hs)⟩
theorem InR.names {T:List Str} {n k:Nat} {L:List Str} (h:InR T n k L) (hk:k < 1000000):namesOK L=true:=by
 unfold namesOK
 simp only [Bool.and_eq_true,List.all_eq_true,decide_eq_true_eq]
 refine ⟨fun s hs=>?_,h.1⟩
 obtain ⟨m,-,h2,rfl,-⟩:=h.2 s hs
 exact pname_named (by omega)
theorem InR.one {T:List Str} (n:Nat):InR T n (nxt T n) [pname (nxt T n)] :=
 ⟨by simp,fun s hs=>by rw [List.mem_singleton.1 hs]; exact ⟨_,nxt_gt T n,Nat.le_refl _,rfl,nxt_not T n⟩⟩
section
variable (T : List Str)
theorem withN_spec:∀ (l:List Str) (S:Sco) (n:Nat),n≤(withN T S l n).2.2∧(withN T S l n).2.1.length=l.length∧InR T n (withN T S l n).2.2 (withN T S l n).2.1 ∧
  (∀ z,z ∉ l→(withN T S l n).1 z=S z)∧(∀ z,z ∈ l→∃ y,y ∈ (withN T S l n).2.1∧(withN T S l n).1 z=some y) ∧
  (l.Nodup→∀ i (h:i < l.length) (h':i < (withN T S l n).2.1.length),(withN T S l n).1 l[i]=some (withN T S l n).2.1[i])
 | [],S,n=>⟨Nat.le_refl _,rfl,.nil,fun _ _=>rfl,(fun z hz=>(List.not_mem_nil hz).elim),(fun _ i h=>absurd h (Nat.not_lt_zero i))⟩
 | x :: l,S,n=>by
  obtain ⟨h1,h2,h3,h4,h5,h6⟩:=withN_spec l (updS S x (pname (nxt T n))) (nxt T n)
  have hg:=nxt_gt T n
  simp only [withN]
  obtain ⟨w,hw⟩:∃ w,withN T (updS S x (pname (nxt T n))) l (nxt T n)=w:=⟨_,rfl⟩
  simp only [hw] at h1 h2 h3 h4 h5 h6 ⊢
  refine ⟨by omega,by simp [h2],(InR.one n).app h3 (by omega) h1,fun z hz=>?_,fun z hz=>?_,fun hd i hi hi'=>?_⟩
  ·rw [h4 z (fun h=>hz (List.mem_cons_of_mem _ h))]
   unfold updS
   rw [if_neg (fun h=>hz (by rw [h]; exact List.mem_cons_self))]
  ·by_cases hzl:z ∈ l
   ·obtain ⟨y,y1,y2⟩:=h5 z hzl
    exact ⟨y,List.mem_cons_of_mem _ y1,y2⟩
   ·refine ⟨_,List.mem_cons_self,?_⟩
    rw [h4 z hzl]
    unfold updS
    rcases List.mem_cons.1 hz with rfl | hz
    ·rw [if_pos rfl]
    ·exact absurd hz hzl
  ·rw [List.nodup_cons] at hd
   cases i with
   | zero =>
    simp only [List.getElem_cons_zero]
    rw [h4 x hd.1]
    unfold updS
    rw [if_pos rfl]
   | succ i =>
    simp only [List.getElem_cons_succ]
    exact h6 hd.2 i (by simpa using hi) (by simpa using hi')
end
theorem bndB_perm:∀ l:ExL,l.bndB.Perm (l.names++l.bnd0)
 | .nil f=>by simp [ExL.bndB,ExL.names,ExL.bnd0,ExL.list]
 | .cons p x l=>by
  have ih:=bndB_perm l
  have hn:(ExL.cons p x l).names=bname (p,x) :: l.names:=by simp [ExL.names,ExL.list]
  rw [hn]
  simp only [ExL.bndB,ExL.bnd0,List.cons_append]
  refine List.Perm.cons _ ?_
  refine (List.Perm.append_left _ ih).trans ?_
  rw [← List.append_assoc,← List.append_assoc]
  exact List.Perm.append_right _ List.perm_append_comm
theorem wrapE_bnd (late:ExL) (out:Ex):(wrapE late out).bnd=late.bndB++out.bnd:=by
 cases late with
 | nil f=>simp [wrapE,ExL.bndB]
 | cons p x l=>simp [wrapE,Ex.bnd,ExL.bnd0,ExL.bndL,txsOf]
theorem names_cons (p:List AV) (x:Ex) (l:ExL):(ExL.cons p x l).names=bname (p,x) :: l.names:=by simp [ExL.names,ExL.list]
theorem prepB_names (T:List Str):∀ (l:ExL) (S:Sco) (ns:List Str) (n:Nat),l.len≤ns.length→(prepB T l S ns n).1.names=ns.take l.len
 | .nil f,S,ns,n,h=>by simp [prepB,ExL.names,ExL.list,ExL.len]
 | .cons p x l,S,[],n,h=>by simp [ExL.len] at h
 | .cons p x l,S,y :: ns,n,h=>by
  simp only [prepB,ExL.len,names_cons,List.tail_cons]
  rw [prepB_names T l S ns _ (by simpa [ExL.len] using h)]
  simp [bname,txOf]
section
variable (T : List Str)
theorem prepA_late {p:List AV} {x:Ex} {l:ExL} {S:Sco} {k:Int} {i n:Nat} (h:k≤(i:Int)∧(prepE T x S n).1.atom=false) :
  prepA T (.cons p x l) S k i n=(.cons [] (varE (pname (nxt T (prepE T x S n).2))) (prepA T l S k (i+1) (nxt T (prepE T x S n).2)).1,.cons [.s (pname (nxt T (prepE T x S n).2))] (prepE T x S n).1 (prepA T l S k (i+1) (nxt T (prepE T x S n).2)).2.1,(prepA T l S k (i+1) (nxt T (prepE T x S n).2)).2.2):=by
 rw [prepA]
 simp only [if_pos h]
theorem prepA_keep {p:List AV} {x:Ex} {l:ExL} {S:Sco} {k:Int} {i n:Nat} (h:¬ (k≤(i:Int)∧(prepE T x S n).1.atom=false)) :
  prepA T (.cons p x l) S k i n=(.cons [] (prepE T x S n).1 (prepA T l S k (i+1) (prepE T x S n).2).1,(prepA T l S k (i+1) (prepE T x S n).2).2.1,(prepA T l S k (i+1) (prepE T x S n).2).2.2):=by
 rw [prepA]
 simp only [if_neg h]
mutual
theorem prepE_in:∀ (x:Ex) (S:Sco) (n:Nat),n≤(prepE T x S n).2∧InR T n (prepE T x S n).2 (prepE T x S n).1.bnd
 | .mk k nm num ps b a l,S,n=>by
  unfold prepE
  by_cases h1:k=1
  ·rw [if_pos h1]
   refine ⟨Nat.le_refl _,?_⟩
   simp only [Ex.bnd,ExL.bndB,ExL.bnd0,ExL.bndL,txsOf]
   exact .nil
  ·rw [if_neg h1]
   simp only
   obtain ⟨a1,a2,a3,-⟩:=withN_spec T (txsOf ps) S n
   generalize withN T S (txsOf ps) n=w1 at *
   obtain ⟨b1,b2,b3,-⟩:=withN_spec T b.names w1.1 w1.2.2
   generalize withN T w1.1 b.names w1.2.2=w2 at *
   rw [names_len] at b2
   obtain ⟨c1,c2⟩:=prepB_in b w2.1 w2.2.1 w2.2.2
   have c3:=prepB_names T b w2.1 w2.2.1 w2.2.2 (by omega)
   rw [List.take_of_length_le (by omega)] at c3
   generalize prepB T b w2.1 w2.2.1 w2.2.2=rb at *
   obtain ⟨d1,d2⟩:=prepA_in a w2.1 (strictK strF k nm a.len) 0 rb.2
   generalize prepA T a w2.1 (strictK strF k nm a.len) 0 rb.2=ra at *
   obtain ⟨e1,e2⟩:=prepL_in l w2.1 ra.2.2
   generalize prepL T l w2.1 ra.2.2=rl at *
   refine ⟨by omega,?_⟩
   rw [wrapE_bnd]
   simp only [Ex.bnd,txsOf_slN]
   have hB:=bndB_perm rb.1
   rw [c3] at hB
   refine InR.perm ((a3.app b3 a1 b1).app (c2.app (d2.app e2 d1 e1) c1 (by omega)) (by omega) (by omega)) ?_
   rw [List.perm_iff_count] at hB ⊢
   intro z
   have:=hB z
   simp only [List.count_append] at this ⊢
   omega
theorem prepB_in:∀ (l:ExL) (S:Sco) (ns:List Str) (n:Nat),n≤(prepB T l S ns n).2∧InR T n (prepB T l S ns n).2 (prepB T l S ns n).1.bnd0
 | .nil _,_,_,_=>by simp only [prepB,ExL.bnd0]; exact ⟨Nat.le_refl _,.nil⟩
 | .cons p x l,S,ns,n=>by
  simp only [prepB,ExL.bnd0]
  obtain ⟨h1,h2⟩:=prepE_in x S n
  obtain ⟨g1,g2⟩:=prepB_in l S ns.tail (prepE T x S n).2
  exact ⟨by omega,h2.app g2 h1 g1⟩
theorem prepA_in:∀ (l:ExL) (S:Sco) (k:Int) (i n:Nat),n≤(prepA T l S k i n).2.2∧InR T n (prepA T l S k i n).2.2 ((prepA T l S k i n).1.bnd0++(prepA T l S k i n).2.1.bndB)
 | .nil _,_,_,_,_=>by simp only [prepA,ExL.bnd0,ExL.bndB]; exact ⟨Nat.le_refl _,.nil⟩
 | .cons p x l,S,k,i,n=>by
  obtain ⟨h1,h2⟩:=prepE_in x S n
  by_cases hc:k≤(i:Int)∧(prepE T x S n).1.atom=false
  ·rw [prepA_late T hc]
   obtain ⟨g1,g2⟩:=prepA_in l S k (i+1) (nxt T (prepE T x S n).2)
   have hg:=nxt_gt T (prepE T x S n).2
   simp only
   generalize prepA T l S k (i+1) (nxt T (prepE T x S n).2)=q at *
   refine ⟨by omega,?_⟩
   simp only [ExL.bnd0,ExL.bndB,varE,Ex.bnd,ExL.bndL,txsOf,List.nil_append,bname,List.headD_cons,txOf]
   refine InR.perm ((h2.app (InR.one (prepE T x S n).2) h1 (by omega)).app g2 (by omega) g1) ?_
   rw [List.perm_iff_count]
   intro z
   simp only [List.count_append,List.count_cons,List.count_nil]
   omega
  ·rw [prepA_keep T hc]
   obtain ⟨g1,g2⟩:=prepA_in l S k (i+1) (prepE T x S n).2
   simp only
   generalize prepA T l S k (i+1) (prepE T x S n).2=q at *
   refine ⟨by omega,?_⟩
   simp only [ExL.bnd0,List.append_assoc]
   exact h2.app g2 h1 g1
theorem prepL_in:∀ (l:ExL) (S:Sco) (n:Nat),n≤(prepL T l S n).2∧InR T n (prepL T l S n).2 (prepL T l S n).1.bndL
 | .nil _,_,_=>by simp only [prepL,ExL.bndL]; exact ⟨Nat.le_refl _,.nil⟩
 | .cons p x l,S,n=>by
  simp only [prepL,ExL.bndL]
  obtain ⟨a1,a2,a3,-⟩:=withN_spec T (altH (p,x)).vs S n
  generalize withN T S (altH (p,x)).vs n=w at *
  obtain ⟨h1,h2⟩:=prepE_in x w.1 w.2.2
  obtain ⟨g1,g2⟩:=prepL_in l S (prepE T x w.1 w.2.2).2
  refine ⟨by omega,?_⟩
  have:(altH ([.i .i64 (altH (p,x)).k,.s (altH (p,x)).n,.i .i64 (altH (p,x)).m,slN w.2.1],(prepE T x w.1 w.2.2).1)).vs=w.2.1:=by
   simp [altH,txsOf_slN]
  rw [this]
  exact a3.app (h2.app g2 h1 g1) a1 (by omega)
end
end
end
end Go.Proofs.YtbemeikjepjhoaaGreatDoor
namespace Go.Proofs.YtbemeikjepjhoaaGreatDoor
open Go.Ev
set_option maxRecDepth 100000
noncomputable section
structure HdF (k:Int) (ps bl al ll:Nat):Prop where
 p5:k≠5→ps=0
 b7:k≠7→bl=0
 l8:k≠8→ll=0
 a1:k=5∨k=7∨k=8→al=1
 a0:k=1∨k=2∨k=3→al=0
 lo:1≤k
 hi:k≤9
 p32:ps≤32
theorem head_facts {C:Str→Option AV} {sc:List (List Str)} {k:Int} {nm:Str} {num:Int} {ps:List Str} {b a l:ExL} (h:headOK C sc k nm num ps b a l=true):HdF k ps.length b.len a.len l.len:=by
 unfold headOK onlyB at h
 generalize ps.length=p at *
 generalize namesOK ps=np at *
 generalize namesOK b.names=nb at *
 generalize b.len=bl at *
 generalize a.len=al at *
 generalize altsOK C l.heads=hd at *
 generalize l.len=ll at *
 by_cases h1:k=1
 ·subst h1
  simp at h
  constructor <;> omega
 by_cases h2:k=2
 ·subst h2
  simp at h
  constructor <;> omega
 by_cases h3:k=3
 ·subst h3
  simp at h
  constructor <;> omega
 by_cases h4:k=4
 ·subst h4
  simp at h
  constructor <;> omega
 by_cases h5:k=5
 ·subst h5
  simp at h
  constructor <;> omega
 by_cases h6:k=6
 ·subst h6
  simp at h
  constructor <;> omega
 by_cases h7:k=7
 ·subst h7
  simp at h
  constructor <;> omega
 by_cases h8:k=8
 ·subst h8
  simp at h
  constructor <;> omega
 by_cases h9:k=9
 ·subst h9
  simp at h
  constructor <;> omega
 simp [h1,h2,h3,h4,h5,h6,h7,h8,h9] at h
theorem headOK_same {C:Str→Option AV} {sc sc':List (List Str)} {k:Int} {nm:Str} {num:Int} {ps ps':List Str} {b a l b' a' l':ExL} (hk:k≠1) (h:headOK C sc k nm num ps b a l=true)
  (e1:ps'.length=ps.length) (e2:b'.len=b.len) (e3:a'.len=a.len) (e4:l'.len=l.len) (n1:namesOK ps'=true) (n2:namesOK b'.names=true) (hA:altsOK C l.heads=true→altsOK C l'.heads=true):headOK C sc' k nm num ps' b' a' l'=true:=by
 unfold headOK at h ⊢
 rw [e1,e2,e3,e4,n1,n2]
 rw [if_neg hk] at h ⊢
 generalize onlyB=O at *
 by_cases h2:k=2
 ·subst h2; simpa using h
 by_cases h3:k=3
 ·subst h3; simpa using h
 by_cases h4:k=4
 ·subst h4; simpa using h
 by_cases h5:k=5
 ·subst h5
  simp only [] at h ⊢
  simp at h ⊢
  exact ⟨h.1,h.2.1,h.2.2.1,h.2.2.2.2⟩
 by_cases h6:k=6
 ·subst h6; simpa using h
 by_cases h7:k=7
 ·subst h7
  simp at h ⊢
  exact ⟨h.1,h.2.1,h.2.2.2⟩
 by_cases h8:k=8
 ·subst h8
  simp at h ⊢
  exact ⟨h.1,h.2.1,hA h.2.2⟩
 by_cases h9:k=9
 ·subst h9; simpa using h
 simp [h2,h3,h4,h5,h6,h7,h8,h9] at h
def HR (a b:AltH):Prop:=a.k=b.k∧a.n=b.n∧a.m=b.m∧a.vs.length=b.vs.length∧namesOK b.vs=true
def HRs:List AltH→List AltH→Prop
 | [],[]=>True
 | a :: l,b :: m=>HR a b∧HRs l m
 | [],_ :: _=>False
 | _ :: _,[]=>False
theorem all_ms (l:List AltH) (x:Int):l.all (fun b=>decide (b.m≠x))=(l.map AltH.m).all (fun m=>decide (m≠x)):=by rw [List.all_map]; rfl
theorem altsGo_same {C:Str→Option AV}:∀ {H H' pre pre':List AltH} {kind:Int} {typ:Str} {sm:Bool} {seen:List Str},HRs H H'→pre.map AltH.m=pre'.map AltH.m→altsGo C pre H kind typ sm seen=true→altsGo C pre' H' kind typ sm seen=true
 | [],[],_,_,_,_,_,_,_,_,_=>by simp only [altsGo]
 | [],_ :: _,_,_,_,_,_,_,h,_,_=>h.elim
 | _ :: _,[],_,_,_,_,_,_,h,_,_=>h.elim
 | a :: l,a' :: l',pre,pre',kind,typ,sm,seen,⟨⟨e1,e2,e3,e4,e5⟩,hs⟩,hp,h=>by
  have hp':(pre++[a]).map AltH.m=(pre'++[a']).map AltH.m:=by simp [hp,e3]
  have ih:=fun (kind:Int) (typ:Str) (sm:Bool) (seen:List Str) (h:altsGo C (pre++[a]) l kind typ sm seen=true)=>altsGo_same hs hp' h
  have he:l'.isEmpty=l.isEmpty:=by
   cases l with
   | nil=>cases l' with
    | nil=>rfl
    | cons y m=>exact hs.elim
   | cons x l=>cases l' with
    | nil=>exact hs.elim
    | cons y m=>rfl
  unfold altsGo at h ⊢
  rw [all_ms,hp] at h
  rw [all_ms,← e1,← e2,← e3,← e4,e5,he]
  simp only [Bool.and_eq_true,Bool.true_and] at h ⊢
  obtain ⟨-,h1,h2,h3⟩:=h
  refine ⟨h1,h2,?_⟩
  by_cases k4:a.k=4
  ·rw [if_pos k4] at h3 ⊢
   simp only [Bool.and_eq_true] at h3 ⊢
   exact ⟨h3.1,h3.2.1,h3.2.2.1,h3.2.2.2.1,ih _ _ _ _ h3.2.2.2.2⟩
  ·rw [if_neg k4] at h3 ⊢
   rw [Bool.and_eq_true] at h3 ⊢
   refine ⟨h3.1,?_⟩
   obtain ⟨-,h3⟩:=h3
   by_cases k1:a.k≠1
   ·rw [if_pos k1] at h3 ⊢
    simp only [Bool.and_eq_true] at h3 ⊢
    exact ⟨h3.1,h3.2.1,h3.2.2.1,h3.2.2.2.1,ih _ _ _ _ h3.2.2.2.2⟩
   ·rw [if_neg k1] at h3 ⊢
    simp only [Bool.and_eq_true] at h3 ⊢
    refine ⟨h3.1,h3.2.1,h3.2.2.1,?_⟩
    have h4:=h3.2.2.2
    cases hc:C a.n with
    | none=>rw [hc] at h4; cases h4
    | some v =>
     rw [hc] at h4
     simp only [Bool.and_eq_true] at h4 ⊢
     exact ⟨h4.1,h4.2.1,ih _ _ _ _ h4.2.2⟩
theorem altsOK_same {C:Str→Option AV} {H H':List AltH} (h:HRs H H') (g:altsOK C H=true):altsOK C H'=true:=by
 unfold altsOK at g ⊢
 rw [Bool.and_eq_true] at g ⊢
 refine ⟨?_,altsGo_same h rfl g.2⟩
 cases H with
 | nil=>exact absurd g.1 (by simp)
 | cons a l=>cases H' with
  | nil=>exact h.elim
  | cons b m=>rfl
def ScR (S:Sco) (sc sc':List (List Str)):Prop:=∀ s,hasB sc s=true→hasB sc' ((S s).getD s)=true
def NmR (S:Sco):Prop:=∀ s y,S s=some y→named y=true
theorem hasB_cons (l:List Str) (sc:List (List Str)) (s:Str):hasB (l :: sc) s=true↔s ∈ l∨hasB sc s=true:=by
 unfold hasB
 simp
theorem ScR.weak {S:Sco} {sc sc':List (List Str)} (h:ScR S sc sc') (A:List Str):ScR S sc (A :: sc'):=fun s hs=>(hasB_cons _ _ _).2 (.inr (h s hs))
section
variable (T : List Str)
theorem ScR.withN {S:Sco} {sc sc':List (List Str)} (h:ScR S sc sc') (l:List Str) (n:Nat):ScR (withN T S l n).1 (l :: sc) ((Go.Proofs.YtbemeikjepjhoaaGreatDoor.withN T S l n).2.1 :: sc'):=by
 obtain ⟨-,-,-,h4,h5,-⟩:=withN_spec T l S n
 intro s hs
 rw [hasB_cons] at hs ⊢
 by_cases hl:s ∈ l
 ·obtain ⟨y,y1,y2⟩:=h5 s hl
  left
  rw [y2]
  exact y1
 ·right
  rw [h4 s hl]
  exact h s (hs.resolve_left hl)
theorem NmR.withN {S:Sco} (h:NmR S) (l:List Str) (n:Nat) (hk:(Go.Proofs.YtbemeikjepjhoaaGreatDoor.withN T S l n).2.2 < 1000000):NmR (Go.Proofs.YtbemeikjepjhoaaGreatDoor.withN T S l n).1:=by
 obtain ⟨-,-,h3,h4,h5,-⟩:=withN_spec T l S n
 intro s y hs
 by_cases hl:s ∈ l
 ·obtain ⟨z,y1,y2⟩:=h5 s hl
  rw [y2] at hs
  cases hs
  obtain ⟨m,-,m2,rfl,-⟩:=h3.2 _ y1
  exact pname_named (by omega)
 ·rw [h4 s hl] at hs
  exact h s y hs
end
theorem nil_of_len {l:ExL} (h:l.len=0):∃ f,l = .nil f:=by
 cases l with
 | nil f=>exact ⟨f,rfl⟩
 | cons p x l=>simp [ExL.len] at h
theorem prepA_none (T:List Str):∀ (l:ExL) (S:Sco) (k:Int) (i n:Nat),(i:Int)+l.len≤k→(prepA T l S k i n).2.1 = .nil true
 | .nil _,_,_,_,_,_=>by simp only [prepA]
 | .cons p x l,S,k,i,n,h=>by
  simp only [ExL.len] at h
  rw [prepA_keep T (by omega)]
  exact prepA_none T l S k (i+1) _ (by omega)
theorem okE_wrap {C:Str→Option AV} {late:ExL} {out:Ex} {sc:List (List Str)} (h:(∃ f,late = .nil f)→okE C out sc=true) (g:(∀ f,late≠.nil f)→okE C out (late.names :: sc)=true∧okL C late (late.names :: sc)=true∧namesOK late.names=true):okE C (wrapE late out) sc=true:=by
 cases late with
 | nil f=>exact h ⟨f,rfl⟩
 | cons p x l =>
  obtain ⟨g1,g2,g3⟩:=g (fun f hf=>by cases hf)
  simp only [wrapE,okE,Bool.and_eq_true]
  refine ⟨?_,?_,?_,?_⟩
  ·unfold headOK onlyB
   rw [if_neg (by decide),if_neg (by decide),if_neg (by decide),if_neg (by decide),if_neg (by decide),if_neg (by decide),if_pos rfl]
   simp [txsOf,ExL.len,g3]
  ·simp only [okL,Bool.and_true]
   simpa [innerS] using g1
  ·simpa [innerS] using g2
  ·simp only [okA]
end
end Go.Proofs.YtbemeikjepjhoaaGreatDoor
namespace Go.Proofs.YtbemeikjepjhoaaGreatDoor
open Go.Ev
set_option maxRecDepth 100000
noncomputable section
theorem hasB_weak {A:List Str} {sc:List (List Str)} {s:Str} (h:hasB sc s=true):hasB (A :: sc) s=true:=(hasB_cons _ _ _).2 (.inr h)
def lateS (late:ExL) (sc:List (List Str)):List (List Str):=match late with
 | .nil _=>sc
 | .cons p x l=>(ExL.cons p x l).names :: sc
theorem lateS_sc {S:Sco} {late:ExL} {sc sc':List (List Str)} (h:ScR S sc sc'):ScR S sc (lateS late sc'):=by
 cases late with
 | nil f=>exact h
 | cons p x l=>exact h.weak _
theorem lateS_has {late:ExL} {sc:List (List Str)}:∀ s ∈ late.names,hasB (lateS late sc) s=true:=by
 cases late with
 | nil f=>intro s hs; simp [ExL.names,ExL.list] at hs
 | cons p x l=>intro s hs; exact (hasB_cons _ _ _).2 (.inl hs)
theorem okE_wrap' {C:Str→Option AV} {late:ExL} {out:Ex} {sc:List (List Str)} (h1:okE C out (lateS late sc)=true) (h2:okL C late (lateS late sc)=true) (h3:namesOK late.names=true):okE C (wrapE late out) sc=true :=
 okE_wrap (fun ⟨f,hf⟩=>by subst hf; exact h1) (fun hn=>by
  cases late with
  | nil f=>exact absurd rfl (hn f)
  | cons p x l=>exact ⟨h1,h2,h3⟩)
theorem names_nil' {l:ExL} (h:l.len=0):l.names=[]:=List.eq_nil_of_length_eq_zero (by rw [names_len]; exact h)
theorem late_names {T:List Str} {n k:Nat} {A:ExL} {late:ExL} (h:InR T n k (A.bnd0++late.bndB)) (hk:k < 1000000):namesOK late.names=true :=
 ((h.right.perm (bndB_perm late).symm).left).names hk
section
variable (T : List Str) (C : Str → Option AV)
mutual
theorem prepE_ok:∀ (x:Ex) (S:Sco) (n:Nat) (sc sc':List (List Str)),okE C x sc=true→ScR S sc sc'→NmR S→pot T n+x.wt < 1000000→okE C (prepE T x S n).1 sc'=true
 | .mk k nm num ps b a l,S,n,sc,sc',h,hS,hN,hp=>by
  simp only [okE,Bool.and_eq_true] at h
  obtain ⟨hh,oa,ob,ol⟩:=h
  have F:=head_facts hh
  simp only [Ex.wt] at hp
  unfold prepE
  by_cases h1:k=1
  ·rw [if_pos h1]
   subst h1
   have q1:=F.p5 (by decide)
   simp only [okE,okL,okA,Bool.and_true]
   unfold headOK at hh ⊢
   rw [if_pos rfl] at hh ⊢
   simp only [Bool.and_eq_true] at hh ⊢
   obtain ⟨g1,g2,g3⟩:=hh
   refine ⟨?_,?_,hS nm g3⟩
   ·unfold onlyB at g1 ⊢
    simp [txsOf,ExL.len] at g1 ⊢
    exact g1.1
   ·cases hs:S nm with
    | none=>exact g2
    | some y=>exact hN nm y hs
  ·rw [if_neg h1]
   simp only
   have W1:=withN_spec T (txsOf ps) S n
   have R1:=fun sc sc' (h:ScR S sc sc')=>h.withN T (txsOf ps) n
   have M1:=hN.withN T (txsOf ps) n
   have P1:=withN_pot T (txsOf ps) S n
   have Z1:(txsOf ps)=[]→withN T S (txsOf ps) n=(S,[],n):=fun h=>by rw [h]; rfl
   generalize withN T S (txsOf ps) n=w1 at *
   have W2:=withN_spec T b.names w1.1 w1.2.2
   have M2:=fun h=>NmR.withN T (S:=w1.1) h b.names w1.2.2
   have R2:=fun sc sc' (h:ScR w1.1 sc sc')=>h.withN T b.names w1.2.2
   have P2:=withN_pot T b.names w1.1 w1.2.2
   have Z2:b.names=[]→withN T w1.1 b.names w1.2.2=(w1.1,[],w1.2.2):=fun h=>by rw [h]; rfl
   generalize withN T w1.1 b.names w1.2.2=w2 at *
   rw [names_len] at P2
   obtain ⟨a1,a2,a3,-⟩:=W1
   obtain ⟨b1,b2,b3,-⟩:=W2
   rw [names_len] at b2
   have K1:=le_pot T w1.2.2
   have K2:=le_pot T w2.2.2
   have c3:=prepB_names T b w2.1 w2.2.1 w2.2.2 (by omega)
   rw [List.take_of_length_le (by omega)] at c3
   have cl:=prepB_len (T:=T) b w2.1 w2.2.1 w2.2.2
   have cp:=prepB_pot T b w2.1 w2.2.1 w2.2.2
   have HB:=prepB_ok b w2.1 w2.2.1 w2.2.2
   generalize prepB T b w2.1 w2.2.1 w2.2.2=rb at *
   obtain ⟨d1,d2⟩:=prepA_in T a w2.1 (strictK strF k nm a.len) 0 rb.2
   have dl:=prepA_len (T:=T) a w2.1 (strictK strF k nm a.len) 0 rb.2
   have dp:=prepA_pot T a w2.1 (strictK strF k nm a.len) 0 rb.2
   have HA:=prepA_ok a w2.1 (strictK strF k nm a.len) 0 rb.2
   have ZA:k=5∨k=7∨k=8→(prepA T a w2.1 (strictK strF k nm a.len) 0 rb.2).2.1 = .nil true:=fun h=>by
    refine prepA_none T a _ _ _ _ ?_
    unfold strictK
    rw [if_neg (by omega),if_neg (by omega),if_neg (by omega)]
    omega
   generalize prepA T a w2.1 (strictK strF k nm a.len) 0 rb.2=ra at *
   have el:=prepL_len (T:=T) l w2.1 ra.2.2
   have ep:=prepL_pot T l w2.1 ra.2.2
   have HL:=prepL_ok l w2.1 ra.2.2
   generalize prepL T l w2.1 ra.2.2=rl at *
   have P1':=P1.1
   have P2':=P2.1
   have K3:=le_pot T ra.2.2
   have m1:=M1 (by omega)
   have m2:=M2 m1 (by omega)
   have nl:=late_names d2 (by omega)
   have hn1:=a3.names (by omega)
   have hn2:namesOK rb.1.names=true:=by rw [c3]; exact b3.names (by omega)
   obtain ⟨sc2,hsc2⟩:∃ s,lateS ra.2.1 sc'=s:=⟨_,rfl⟩
   have hS2:ScR S sc sc2:=by rw [← hsc2]; exact lateS_sc hS
   have hlt:∀ s ∈ ra.2.1.names,hasB sc2 s=true:=by rw [← hsc2]; exact lateS_has
   have SI:ScR w2.1 (innerS k (txsOf ps) b sc) (innerS k w1.2.1 rb.1 sc2):=by
    unfold innerS
    by_cases k5:k=5
    ·rw [if_pos k5,if_pos k5]
     have:=Z2 (names_nil' (F.b7 (by omega)))
     rw [this]
     exact R1 _ _ hS2
    ·rw [if_neg k5,if_neg k5]
     have z1:=Z1 (List.eq_nil_of_length_eq_zero (F.p5 k5))
     by_cases k7:k=7
     ·rw [if_pos k7,if_pos k7,c3]
      exact R2 _ _ (by rw [z1]; exact hS2)
     ·rw [if_neg k7,if_neg k7,Z2 (names_nil' (F.b7 k7)),z1]
      exact hS2
   have hlt':∀ s ∈ ra.2.1.names,hasB (innerS k w1.2.1 rb.1 sc2) s=true:=fun s hs=>by
    have:=hlt s hs
    unfold innerS
    split
    ·exact hasB_weak this
    ·split
     ·exact hasB_weak this
     ·exact this
   obtain ⟨A1,A2⟩:=HA _ _ oa SI m2 (by omega) hlt'
   have B1:=HB _ _ ob SI m2 (by omega)
   have hl8:okA C rl.1 sc2=true∧(altsOK C l.heads=true→altsOK C rl.1.heads=true):=by
    by_cases k8:k=8
    ·have z1:=Z1 (List.eq_nil_of_length_eq_zero (F.p5 (by omega)))
     have z2:=Z2 (names_nil' (F.b7 (by omega)))
     obtain ⟨q1,q2⟩:=HL sc sc2 ol (by rw [z2,z1]; exact hS2) m2 (by omega)
     exact ⟨q1,altsOK_same q2⟩
    ·have hl0:=F.l8 k8
     obtain ⟨f,hf⟩:=nil_of_len (l:=rl.1) (by omega)
     rw [hf]
     obtain ⟨f',hf'⟩:=nil_of_len hl0
     rw [hf']
     exact ⟨by simp only [okA],fun h=>by simp [altsOK,ExL.heads,ExL.list] at h⟩
   refine okE_wrap' ?_ ?_ nl
   ·rw [hsc2]
    simp only [okE,Bool.and_eq_true,txsOf_slN]
    exact ⟨headOK_same h1 hh a2 cl dl el hn1 hn2 hl8.2,A1,B1,hl8.1⟩
   ·rw [hsc2]
    by_cases k578:k=5∨k=7∨k=8
    ·rw [ZA k578]; simp only [okL]
    ·have hi:innerS k w1.2.1 rb.1 sc2=sc2:=by
      unfold innerS
      rw [if_neg (by omega),if_neg (by omega)]
     rw [hi] at A2
     exact A2
theorem prepB_ok:∀ (l:ExL) (S:Sco) (ns:List Str) (n:Nat) (sc sc':List (List Str)),okL C l sc=true→ScR S sc sc'→NmR S→pot T n+l.wt < 1000000→okL C (prepB T l S ns n).1 sc'=true
 | .nil _,_,_,_,_,_,_,_,_,_=>by simp only [prepB,okL]
 | .cons p x l,S,ns,n,sc,sc',h,hS,hN,hp=>by
  simp only [okL,Bool.and_eq_true] at h
  simp only [ExL.wt] at hp
  have:=prepE_pot T x S n
  simp only [prepB,okL,Bool.and_eq_true]
  exact ⟨prepE_ok x S n sc sc' h.1 hS hN (by omega),prepB_ok l S ns.tail _ sc sc' h.2 hS hN (by omega)⟩
theorem prepA_ok:∀ (l:ExL) (S:Sco) (k:Int) (i n:Nat) (sc sc':List (List Str)),okL C l sc=true→ScR S sc sc'→NmR S→pot T n+(l.len+l.wt) < 1000000→(∀ s ∈ (prepA T l S k i n).2.1.names,hasB sc' s=true)→okL C (prepA T l S k i n).1 sc'=true∧okL C (prepA T l S k i n).2.1 sc'=true
 | .nil _,_,_,_,_,_,_,_,_,_,_,_=>by simp only [prepA,okL]; exact ⟨trivial,trivial⟩
 | .cons p x l,S,k,i,n,sc,sc',h,hS,hN,hp,hl=>by
  simp only [okL,Bool.and_eq_true] at h
  simp only [ExL.wt,ExL.len] at hp
  have p1:=prepE_pot T x S n
  have e1:=prepE_ok x S n sc sc' h.1 hS hN (by omega)
  by_cases hc:k≤(i:Int)∧(prepE T x S n).1.atom=false
  ·rw [prepA_late T hc] at hl ⊢
   have p2:=pot_nxt T (prepE T x S n).2
   have p3:=le_pot T (nxt T (prepE T x S n).2)
   simp only [names_cons,List.mem_cons,forall_eq_or_imp] at hl
   obtain ⟨q1,q2⟩:=prepA_ok l S k (i+1) _ sc sc' h.2 hS hN (by omega) hl.2
   simp only [okL,Bool.and_eq_true]
   refine ⟨⟨?_,q1⟩,e1,q2⟩
   simp only [varE,okE,okL,okA,Bool.and_true]
   unfold headOK onlyB
   rw [if_pos rfl]
   simp [txsOf,ExL.len]
   exact ⟨pname_named (by omega),by simpa [bname,txOf] using hl.1⟩
  ·rw [prepA_keep T hc] at hl ⊢
   obtain ⟨q1,q2⟩:=prepA_ok l S k (i+1) _ sc sc' h.2 hS hN (by omega) hl
   simp only [okL,Bool.and_eq_true]
   exact ⟨⟨e1,q1⟩,q2⟩
theorem prepL_ok:∀ (l:ExL) (S:Sco) (n:Nat) (sc sc':List (List Str)),okA C l sc=true→ScR S sc sc'→NmR S→pot T n+l.wtA < 1000000→okA C (prepL T l S n).1 sc'=true∧HRs l.heads (prepL T l S n).1.heads
 | .nil _,_,_,_,_,_,_,_,_=>by simp only [prepL,okA]; exact ⟨trivial,trivial⟩
 | .cons p x l,S,n,sc,sc',h,hS,hN,hp=>by
  simp only [okA,Bool.and_eq_true] at h
  simp only [ExL.wtA] at hp
  have hv:(altH (p,x)).vs=txsOf (p.getD 3 .un):=rfl
  have W:=withN_spec T (altH (p,x)).vs S n
  have P:=(withN_pot T (altH (p,x)).vs S n).1
  have R:=hS.withN T (altH (p,x)).vs n
  have M:=hN.withN T (altH (p,x)).vs n
  simp only [prepL]
  generalize withN T S (altH (p,x)).vs n=w at *
  obtain ⟨w1,w2,w3,-⟩:=W
  have K:=le_pot T w.2.2
  have m:=M (by omega)
  have p1:=prepE_pot T x w.1 w.2.2
  have e1:=prepE_ok x w.1 w.2.2 _ _ h.1 (by rw [← hv]; exact R) m (by omega)
  obtain ⟨q1,q2⟩:=prepL_ok l S (prepE T x w.1 w.2.2).2 sc sc' h.2 hS hN (by omega)
  have h1:(altH ([.i .i64 (altH (p,x)).k,.s (altH (p,x)).n,.i .i64 (altH (p,x)).m,slN w.2.1],(prepE T x w.1 w.2.2).1))=⟨(altH (p,x)).k,(altH (p,x)).n,(altH (p,x)).m,w.2.1⟩:=by
   simp [altH,txsOf_slN,intOf,txOf]
  have hc:∀ (p:List AV) (x:Ex) (l:ExL),(ExL.cons p x l).heads=altH (p,x) :: l.heads:=fun p x l=>by simp [ExL.heads,ExL.list]
  refine ⟨?_,?_⟩
  ·simp only [okA,Bool.and_eq_true]
   refine ⟨?_,q1⟩
   simpa [txsOf_slN] using e1
  ·rw [hc,hc,h1]
   exact ⟨⟨rfl,rfl,rfl,w2.symm,w3.names (by omega)⟩,q2⟩
end
end
end
end Go.Proofs.YtbemeikjepjhoaaGreatDoor
namespace Go.Proofs.YtbemeikjepjhoaaGreatDoor
open Go.Ev
set_option maxRecDepth 100000
noncomputable section
variable {c : Option Self} {st : St}
noncomputable def f8at:Nat→Code
 | 0=>Tryz.f8.body.getD .skip
 | k+1=>cTl (f8at k)
theorem bnd_le:∀ (l:ExL) (j:Nat) (hj:j < l.list.length),l.list[j].2.bnd.length≤l.bnd0.length
 | .nil f,j,hj=>by simp [ExL.list] at hj
 | .cons p x l,0,hj=>by simp [ExL.list,ExL.bnd0]
 | .cons p x l,j+1,hj=>by
  have:=bnd_le l j (by simpa [ExL.list] using hj)
  simp only [ExL.list,ExL.bnd0,List.getElem_cons_succ,List.length_append]
  omega
structure F8 (s:St) (t:Tr AV) (r1 r3:Nat) (cv bv:AV) (L:List Str):Prop where
 t1:tget t 1 = .p r1 0
 t3:tget t 3 = .m r3
 c1:∃ al,s.ce r1=some ([cv,bv],r1,al)
 lo:r1 < s.next∧r3 < s.next
 M:MpF s r3 (seenF L)
set_option maxHeartbeats 1000000 in
theorem prepared_call {cv:AV} {b:ExL} (hcs:cv.cells=some [cv]∧isSc cv=true∧pureV cv=true) (hb:b.Ty 1) (hs:b.size≤1000000) (hC:ChkIs c cv b 0) (hn:nrmK strF b=true) (hd:(b.names++b.bnd0).Nodup) (hl:b.bnd0.length≤1000000) {N:Nat} (hN:b.size+3000000≤N) (h7:c=none∨(8:Nat)≠7) :
  (Tw c N).call 8 [.ag [cv,b.slice 8]] st=some (.b true,st):=by
 obtain ⟨N,rfl⟩:∃ N',N=N'+1:=⟨N - 1,by omega⟩
 have hbl:=b.len_le
 refine body_v (X:=[]) rfl rfl h7 (.pure (by simp [pureL,pureV,hcs.2.2,ExL.slice_pure hb 8])) Tryz.func8 rfl (Nat.le_of_ble_eq_true rfl) rfl ?_
 unfold bodyR
 show Ret (endF Tryz.prog Tryz.f8.results.toList (evC (f8at 0) ⟨Tryz.prog,Tw c N,false,Tryz.f8.ntmps,N⟩ (tmpsOf [.ag [cv,b.slice 8]] 0 .lf) st0)) _
 have ln:=fun st:St=>len_sl (st:=st) Tryz.underlying23 (b.slice_len 8) (b.slice_text 8)
 have c1:=newCe_ce (st:=st0) [cv,b.slice 8]
 have k1:=Kp.newCe (st:=st0) [] [] [cv,b.slice 8]
 obtain ⟨s1,hs1⟩:∃ s,st0.newCe [cv,b.slice 8]=s:=⟨_,rfl⟩
 have n1:s1.next=st0.next+1:=by rw [← hs1]; rfl
 rw [hs1] at c1 k1
 have ra:rd s1 st0.next 0 2=some [cv,b.slice 8]:=by rw [rd_of c1]; rfl
 have ck:=hC s1 (.ag [cv,b.slice 8]) N (by omega) (.pure (by simp [pureV,pureL,hcs.2.2,ExL.slice_pure hb 8]))
 have m0:=MpF.new s1
 have k2:=Kp.new (st:=s1) [] [] (.mp [] 0)
 obtain ⟨s2,hs2⟩:∃ x,s1.new (.mp [] 0)=x:=⟨_,rfl⟩
 have n2:s2.next=s1.next+1:=by rw [← hs2]; rfl
 rw [hs2] at m0 k2
 have c2:=k2.ce c1 (by omega) (by omega) (by simp) (by simp)
 have a0:∃ t,evC (f8at 0) ⟨Tryz.prog,Tw c N,false,Tryz.f8.ntmps,N⟩ (tmpsOf [.ag [cv,b.slice 8]] 0 .lf) st0=evC (f8at 3) ⟨Tryz.prog,Tw c N,false,Tryz.f8.ntmps,N⟩ t s2∧tget t 1 = .p st0.next 0∧tget t 3 = .m s1.next:=by
  simp [f8at,cTl,Tryz.f8,hs1,load_ag inf25 ag25,sz25,ra,callF_of Tryz.func7 rfl,ck,hs2]
  exact ⟨_,rfl,by simp,by simp⟩
 obtain ⟨t0,a0,d1,d3⟩:=a0
 rw [a0]
 obtain ⟨r1,hr1⟩:∃ r,st0.next=r:=⟨_,rfl⟩
 obtain ⟨r3,hr3⟩:∃ r,s1.next=r:=⟨_,rfl⟩
 rw [hr1] at d1 c2 n1
 rw [hr3] at d3 m0 n2 n1
 have F0:F8 s2 t0 r1 r3 cv (b.slice 8) []:=⟨d1,d3,⟨_,c2⟩,⟨by omega,by omega⟩,mpF_congr m0 (fun x=>by simp [seenF])⟩
 have hne:r1≠r3:=by omega
 have loop1:∃ t s,evC (cHd (f8at 3)) ⟨Tryz.prog,Tw c N,false,Tryz.f8.ntmps,N⟩ t0 s2 = .nx t s∧F8 s t r1 r3 cv (b.slice 8) b.names:=by
  obtain ⟨al,c1'⟩:=F0.c1
  have rb:rd s2 r1 1 1=some [b.slice 8]:=by rw [rd_of c1']; rfl
  simp [f8at,cHd,cTl,Tryz.f8,F0.t1,off25_1,load_p inf23 ag23,rb,ln,evC_loop]
  generalize hL:loopC _ _ _ _=L
  obtain ⟨t1,s1',rfl,p0⟩:=loop_use hL 0 b.list.length
   (fun i t' s'=>tget t' 15=b.slice 8∧tget t' 16 = .i .i64 (b.len:Int)∧tget t' 17 = .i .i64 (i:Int)∧F8 s' t' r1 r3 cv (b.slice 8) (b.names.take i))
   (fun t' s'=>F8 s' t' r1 r3 cv (b.slice 8) b.names) (by rw [← ExL.len_eq]; omega)
   ⟨by simp,by simp,by simp,by simp [F0.t1],by simp [F0.t3],F0.c1,F0.lo,by simpa using F0.M⟩
   (by
    rintro i t' s' hi ⟨i15,i16,i17,iF⟩
    clear hL
    have hil:i < b.len:=by rw [ExL.len_eq]; exact hi
    have hin:i < b.names.length:=by rw [names_len]; exact hil
    have e3:(i:Int) < (b.len:Int):=by omega
    have e4:wr .i64 ((i:Int)+1)=((i+1:Nat):Int):=by rw [wr_in (by omega) (by omega)]; rfl
    obtain ⟨r,r1',r2'⟩:=part_at hb.pre (show preLen 1+7=8 from rfl) hi
    have ix:=index_rs (P:=Tryz.prog) Tryz.underlying23 inf42 sz42 b.flat b.len i hil
    rw [← ExL.slice_rs hil,r1',← List.append_assoc] at ix
    have hT:=ExL.ty_list hb _ (List.getElem_mem hi)
    have hpr:=pre1 hT.1
    have hnm:b.names[i]=txOf (b.list[i].1.headD .un):=by simp [ExL.names,bname]
    rw [← hnm] at hpr
    have hce:(b.list[i].1++b.list[i].2.cells).length=8:=by rw [List.length_append,r2',Ex.cells_len]; rfl
    have hsc:allSc (b.list[i].1++b.list[i].2.cells)=true:=allSc_append hT.1.sc (Ex.cells_sc hT.2.wf)
    have ld:=fun st:St=>load_ms (st:=st) (r:=r) inf42 ag42 sz42 hce
    have hhd:cut (b.list[i].1++b.list[i].2.cells) 0 1=some [.s b.names[i]]:=by rw [hpr]; rfl
    generalize b.list[i].1++b.list[i].2.cells=cl at *
    obtain ⟨s3,u1,u2,u3,u4⟩:=alloc_store (s:=s') (z:=zL42) hce hsc
    have n3:=u3.next
    have hlo:=iF.lo
    have M2:=iF.M.keep u3 hlo.2 (by simp)
    obtain ⟨s4,w1,w2,w3,w4⟩:=M2.set mp51 b.names[i] (.b true)
    rw [seen_upd,List.take_append_getElem hin] at w2
    have rn:rd s3 s'.next 0 1=some [.s b.names[i]]:=by rw [rd_of u2,hhd]
    obtain ⟨al2,cc⟩:=iF.c1
    have cc2:=w3.ce (u3.ce cc hlo.1 hlo.1 (by simp) (by simp)) (by omega) (by omega) (by simp [hne]) (by simp)
    have zz:zeroC Tryz.prog 42=some zL42:=zC42
    simp [i15,i16,i17,iF.t3,e3,e4,ix,ld,opH_alloc,zz,store_ag inf42 sz42,hce,u1,off42_0,load_p inf9 ag9,rn,w1]
    exact ⟨_,_,⟨rfl,rfl⟩,by simp [i15],by simp [i16],by simp,by simp [iF.t1],by simp [iF.t3],⟨_,cc2⟩,⟨by omega,by omega⟩,w2⟩)
   (by
    rintro t' s' ⟨i15,i16,i17,iF⟩
    clear hL
    simp [i16,i17,ExL.len_eq]
    have hM:=iF.M
    rw [← ExL.len_eq,← names_len,List.take_length] at hM
    exact ⟨_,_,⟨rfl,rfl⟩,by simp [iF.t1],by simp [iF.t3],iF.c1,iF.lo,hM⟩)
  clear hL
  exact ⟨t1,s1',by simp,p0⟩
 obtain ⟨t1,s3,a1,F1⟩:=loop1
 rw [show evC (f8at 3) ⟨Tryz.prog,Tw c N,false,Tryz.f8.ntmps,N⟩ t0 s2=thenC (evC (cHd (f8at 3)) ⟨Tryz.prog,Tw c N,false,Tryz.f8.ntmps,N⟩ t0 s2) (evC (f8at 4) ⟨Tryz.prog,Tw c N,false,Tryz.f8.ntmps,N⟩) from rfl,a1,thenC_nx]
 have loop2:∃ t s,evC (cHd (f8at 4)) ⟨Tryz.prog,Tw c N,false,Tryz.f8.ntmps,N⟩ t1 s3 = .nx t s:=by
  obtain ⟨al,c1'⟩:=F1.c1
  have rb:rd s3 r1 1 1=some [b.slice 8]:=by rw [rd_of c1']; rfl
  simp [f8at,cHd,cTl,Tryz.f8,F1.t1,off25_1,load_p inf23 ag23,rb,ln,evC_loop]
  generalize hL:loopC _ _ _ _=L
  obtain ⟨t2,s2',rfl,-⟩:=loop_use hL 2 b.list.length
   (fun i t' s'=>tget t' 26=b.slice 8∧tget t' 27 = .i .i64 (b.len:Int)∧tget t' 28 = .i .i64 (i:Int)∧∃ A,F8 s' t' r1 r3 cv (b.slice 8) A∧(A++(dropL b i).bnd0).Nodup)
   (fun t' s'=>True) (by rw [← ExL.len_eq]; omega)
   ⟨by simp,by simp,by simp,b.names,⟨by simp [F1.t1],by simp [F1.t3],F1.c1,F1.lo,F1.M⟩,by simpa [dropL] using hd⟩
   (by
    rintro i t' s' hi ⟨i26,i27,i28,A,iF,iN⟩
    clear hL
    have hil:i < b.len:=by rw [ExL.len_eq]; exact hi
    have e3:(i:Int) < (b.len:Int):=by omega
    have e4:wr .i64 ((i:Int)+1)=((i+1:Nat):Int):=by rw [wr_in (by omega) (by omega)]; rfl
    obtain ⟨r,r1',r2'⟩:=part_at hb.pre (show preLen 1+7=8 from rfl) hi
    have ix:=index_rs (P:=Tryz.prog) Tryz.underlying23 inf42 sz42 b.flat b.len i hil
    rw [← ExL.slice_rs hil,r1',← List.append_assoc] at ix
    have hmem:=List.getElem_mem hi
    have hT:=ExL.ty_list hb _ hmem
    have hsz':=ExL.size_mem hmem
    have hpr:=pre1 hT.1
    have hce:(b.list[i].1++b.list[i].2.cells).length=8:=by rw [List.length_append,r2',Ex.cells_len]; rfl
    have hsc:allSc (b.list[i].1++b.list[i].2.cells)=true:=allSc_append hT.1.sc (Ex.cells_sc hT.2.wf)
    have ld:=fun st:St=>load_ms (st:=st) (r:=r) inf42 ag42 sz42 hce
    have hcut:cut (b.list[i].1++b.list[i].2.cells) 1 7=some b.list[i].2.cells:=by
     rw [hpr]
     have:=takeN_app b.list[i].2.cells []
     rw [Ex.cells_len,List.append_nil] at this
     simpa using this
    rw [bnd0_drop b hi] at iN
    have hnx:=nrmK_iff.1 hn i hi
    have hbl0:b.list[i].2.bnd.length≤b.bnd0.length:=by
     exact bnd_le b i hi
    obtain ⟨v,v1,v2⟩:=bound_call (c:=c) _ hT.2 (by omega) (by omega) N (by omega)
    generalize b.list[i].1++b.list[i].2.cells=cl at *
    obtain ⟨s3,u1,u2,u3,u4⟩:=alloc_store (s:=s') (z:=zL42) hce hsc
    have n3:=u3.next
    have hlo:=iF.lo
    have M3:=iF.M.keep u3 hlo.2 (by simp)
    have rx3:rd s3 s'.next 1 7=some b.list[i].2.cells:=by rw [rd_of u2,hcut]
    obtain ⟨s4,y1,y2⟩:=normal_call (c:=c) _ hT.2.wf s3 N (by omega) (by omega)
    rw [hnx] at y1
    have n4:=y2.next
    have rx4:rd s4 s'.next 1 7=some b.list[i].2.cells:=by rw [rd_of (y2.ce u2 u4 u4 (by simp) (by simp)),hcut]
    have M4:=M3.keep y2 (by omega) (by simp)
    have k4:=(u3.sub (A':=[r3]) (B':=[]) (by simp) (by simp)).trans (y2.sub (A':=[r3]) (B':=[]) (by simp) (by simp))
    have zz:zeroC Tryz.prog 42=some zL42:=zC42
    obtain ⟨bn,hbn⟩:∃ x,b.list[i].2.bnd=x:=⟨_,rfl⟩
    rw [hbn] at v1 iN hbl0
    have lnv:=fun s:St=>len_sl (st:=s) Tryz.underlying36 v1.len v1.text
    simp only [List.length_map] at lnv
    simp [i26,i27,i28,e3,ix,ld,opH_alloc,zz,store_ag inf42 sz42,hce,u1,off42_1,load_ag inf40 ag40,sz40,rx3,rx4,callF_of Tryz.func28 rfl,callF_of Tryz.func29 rfl,y1,v2 s4,lnv,evC_loop]
    generalize hL:loopC _ _ _ _=L
    obtain ⟨t3,s5,rfl,p0⟩:=loop_use hL 4 bn.length
     (fun j t'' s''=>tget t'' 26=b.slice 8∧tget t'' 27 = .i .i64 (b.len:Int)∧tget t'' 28 = .i .i64 (i:Int)∧tget t'' 38=v∧tget t'' 39 = .i .i64 (bn.length:Int)∧tget t'' 40 = .i .i64 (j:Int)∧F8 s'' t'' r1 r3 cv (b.slice 8) (A++bn.take j))
     (fun t'' s''=>tget t'' 26=b.slice 8∧tget t'' 27 = .i .i64 (b.len:Int)∧tget t'' 28 = .i .i64 (i:Int)∧F8 s'' t'' r1 r3 cv (b.slice 8) (A++bn)) (by omega)
     ⟨by simp [i26],by simp [i27],by simp [i28],by simp,by simp,by simp,by simp [iF.t1],by simp [iF.t3],by
      obtain ⟨al2,cc⟩:=iF.c1
      exact ⟨_,y2.ce (u3.ce cc hlo.1 hlo.1 (by simp) (by simp)) (by omega) (by omega) (by simp) (by simp)⟩,⟨by omega,by omega⟩,by simpa using M4⟩
     (by
      rintro j t'' s'' hj ⟨q26,q27,q28,q38,q39,q40,qF⟩
      clear hL
      have f3:(j:Int) < (bn.length:Int):=by omega
      have f4:wr .i64 ((j:Int)+1)=((j+1:Nat):Int):=by rw [wr_in (by omega) (by omega)]; rfl
      obtain ⟨ad,x1,x2⟩:=v1.sat sl36 ag9 hj
      have hnot:bn[j] ∉ A++bn.take j:=by
       have h1:((A++bn.take (j+1))++(bn.drop (j+1)++(dropL b (i+1)).bnd0)).Nodup:=by
        rw [List.append_assoc,← List.append_assoc (bn.take (j+1)),List.take_append_drop]; exact iN
       have h2:=(List.nodup_append.1 h1).1
       rw [← List.take_append_getElem hj,← List.append_assoc] at h2
       exact fun hh=>(List.nodup_append.1 h2).2.2 _ hh _ (by simp) rfl
      have lk:=qF.M.get mp51 bn[j]
      rw [seen_get,decide_eq_false hnot] at lk
      obtain ⟨s6,w1,w2,w3,w4⟩:=qF.M.set mp51 bn[j] (.b true)
      rw [seen_upd,List.append_assoc,List.take_append_getElem hj] at w2
      have qlo:=qF.lo
      obtain ⟨al2,cc⟩:=qF.c1
      simp [q38,q39,q40,qF.t3,f3,f4,x1,x2,lk,w1]
      exact ⟨_,_,⟨rfl,rfl⟩,by simp [q26],by simp [q27],by simp [q28],by simp [q38],by simp [q39],by simp,by simp [qF.t1],by simp [qF.t3],⟨_,w3.ce cc qlo.1 qlo.1 (by simp [hne]) (by simp)⟩,⟨by omega,by omega⟩,w2⟩)
     (by
      rintro t'' s'' ⟨q26,q27,q28,q38,q39,q40,qF⟩
      clear hL
      simp [q39,q40]
      rw [List.take_length] at qF
      exact ⟨_,_,⟨rfl,rfl⟩,by simp [q26],by simp [q27],by simp [q28],by simp [qF.t1],by simp [qF.t3],qF.c1,qF.lo,qF.M⟩)
    obtain ⟨q26,q27,q28,qF⟩:=p0
    clear hL
    simp [q28,e4]
    exact ⟨_,_,⟨rfl,rfl⟩,by simp [q26],by simp [q27],by simp,A++bn,⟨by simp [qF.t1],by simp [qF.t3],qF.c1,qF.lo,qF.M⟩,by rw [List.append_assoc]; exact iN⟩)
   (by
    rintro t' s' ⟨i26,i27,i28,iF⟩
    clear hL
    simp [i27,i28,ExL.len_eq])
  clear hL
  exact ⟨t2,s2',by simp⟩
 obtain ⟨t2,s4,a2⟩:=loop2
 rw [show evC (f8at 4) ⟨Tryz.prog,Tw c N,false,Tryz.f8.ntmps,N⟩ t1 s3=thenC (evC (cHd (f8at 4)) ⟨Tryz.prog,Tw c N,false,Tryz.f8.ntmps,N⟩ t1 s3) (evC (f8at 5) ⟨Tryz.prog,Tw c N,false,Tryz.f8.ntmps,N⟩) from rfl,a2,thenC_nx]
 exact ⟨s4,by simp [f8at,cTl,Tryz.f8,resOf_eq,pmapO]⟩
end
end Go.Proofs.YtbemeikjepjhoaaGreatDoor
