/-
  Two stores into different rows may be told either way round. · A region with two stores whose order is open: it is told both ways, and both ways come to the same.
-/
import Derived.Test.YtbemeikjepjhoaaGreatDoorS18
namespace Go.Ev
noncomputable section
variable {P : Program} {S : Self}
theorem Tr.setW_comm {α:Type} (v w:Option α):∀ (p q:List Bool) (t:Tr α),p≠q→Tr.setW p v (Tr.setW q w t)=Tr.setW q w (Tr.setW p v t)
 | [],[],t,h=>absurd rfl h
 | [],b :: q,.lf,_=>by cases b <;> rfl
 | [],b :: q,.nd o l r,_=>by cases b <;> rfl
 | b :: p,[],.lf,_=>by cases b <;> rfl
 | b :: p,[],.nd o l r,_=>by cases b <;> rfl
 | a :: p,b :: q,t,h=>by
  have ih:=fun t:Tr α=>Tr.setW_comm v w p q t
  cases t with
  | lf =>
   cases a <;> cases b
   ·have hpq:p≠q:=fun e=>h (by rw [e])
    show Tr.nd none .lf (Tr.setW p v (Tr.setW q w .lf))=Tr.nd none .lf (Tr.setW q w (Tr.setW p v .lf))
    rw [ih _ hpq]
   ·rfl
   ·rfl
   ·have hpq:p≠q:=fun e=>h (by rw [e])
    show Tr.nd none (Tr.setW p v (Tr.setW q w .lf)) .lf=Tr.nd none (Tr.setW q w (Tr.setW p v .lf)) .lf
    rw [ih _ hpq]
  | nd o l r =>
   cases a <;> cases b
   ·have hpq:p≠q:=fun e=>h (by rw [e])
    show Tr.nd o l (Tr.setW p v (Tr.setW q w r))=Tr.nd o l (Tr.setW q w (Tr.setW p v r))
    rw [ih _ hpq]
   ·rfl
   ·rfl
   ·have hpq:p≠q:=fun e=>h (by rw [e])
    show Tr.nd o (Tr.setW p v (Tr.setW q w l)) r=Tr.nd o (Tr.setW q w (Tr.setW p v l)) r
    rw [ih _ hpq]
theorem Tr.set_comm {α:Type} (t:Tr α) {n m:Nat} (h:n≠m) (v w:Option α):(t.set n v).set m w=(t.set m w).set n v:=by
 unfold Tr.set
 rw [Tr.setW_comm]
 intro e
 apply h
 exact (way_inj e).symm
theorem setCe_ce_ne {st:St} {r r':Nat} {l l':List AV} {g g':Nat} {al:List Nat} (h:st.ce r'=some (l',g',al)) (hr:r'≠r) (hg:g'≠g):(st.setCe r l g).ce r'=some (l',g',al):=by
 obtain ⟨k1,k2,k3⟩:=ce_three h
 unfold St.ce
 rw [setCe_get hr,k1]
 have:(st.setCe r l g).live.get g'=some al:=by simp [St.setCe,Tr.get_set,hg,k2]
 simp only [this,k3]
theorem wt_eq {st:St} {r o:Nat} {l:List AV} {g:Nat} {al:List Nat} (h:st.ce r=some (l,g,al)) (vs:List AV):wt st r o vs=if o+vs.length≤l.length∧allSc vs=true then some (st.setCe r (ovr l o vs) g) else none:=by
 by_cases hc:o+vs.length≤l.length∧allSc vs=true
 ·rw [if_pos hc,wt_of h o vs hc.1 hc.2]
 ·rw [if_neg hc]
  unfold wt
  rw [h]
  have:(Nat.ble (o+vs.length) l.length && allSc vs)=false:=by
   rw [Bool.eq_false_iff]
   intro hh
   rw [Bool.and_eq_true] at hh
   exact hc ⟨Nat.le_of_ble_eq_true hh.1,hh.2⟩
  simp only [this]
theorem setCe_comm {st:St} {r1 r2 g1 g2:Nat} {l1 l2:List AV} (hr:r1≠r2) (hg:g1≠g2):(st.setCe r1 l1 g1).setCe r2 l2 g2=(st.setCe r2 l2 g2).setCe r1 l1 g1:=by
 unfold St.setCe
 simp only [Tr.set_comm _ hr,Tr.set_comm _ hg]
theorem wt_comm {st:St} {r1 o1 r2 o2 g1 g2:Nat} {v1 v2 l1 l2:List AV} {a1 a2:List Nat} (h1:st.ce r1=some (l1,g1,a1)) (h2:st.ce r2=some (l2,g2,a2)) (hr:r1≠r2) (hg:g1≠g2) :
  (match wt st r1 o1 v1 with | some s=>wt s r2 o2 v2 | none=>none)=(match wt st r2 o2 v2 with | some s=>wt s r1 o1 v1 | none=>none):=by
 rw [wt_eq h1,wt_eq h2]
 by_cases c1:o1+v1.length≤l1.length∧allSc v1=true
 ·by_cases c2:o2+v2.length≤l2.length∧allSc v2=true
  ·rw [if_pos c1,if_pos c2]
   simp only
   rw [wt_eq (setCe_ce_ne h2 (Ne.symm hr) (Ne.symm hg)),wt_eq (setCe_ce_ne h1 hr hg),if_pos c2,if_pos c1,setCe_comm hr hg]
  ·rw [if_pos c1,if_neg c2]
   simp only
   rw [wt_eq (setCe_ce_ne h2 (Ne.symm hr) (Ne.symm hg)),if_neg c2]
 ·by_cases c2:o2+v2.length≤l2.length∧allSc v2=true
  ·rw [if_neg c1,if_pos c2]
   simp only
   rw [wt_eq (setCe_ce_ne h1 hr hg),if_neg c1]
  ·rw [if_neg c1,if_neg c2]
def Sames (o o':Oper):Prop:=o.op=o'.op∧o.dst=o'.dst∧o.guard=o'.guard
def SamesL:List Oper→List Oper→Prop
 | [],[]=>True
 | o :: l,o' :: l'=>Sames o o'∧SamesL l l'
 | _,_=>False
theorem guardBy_bind {ops:Array Oper} {t:Tr AV} {j:Nat} {w:Bool}:guardBy ops t j w=match (ops[j]?).bind (fun o:Oper=>o.dst) with | some d=>guardV w (t.get d) | none=>none:=by
 unfold guardBy
 cases ops[j]? with
 | none=>rfl
 | some g=>cases hg:g.dst <;> simp [hg]
theorem evOps_sames {nt:Nat} {ops ops':Array Oper} (hd:∀ j:Nat,(ops[j]?).bind (fun o:Oper=>o.dst)=(ops'[j]?).bind (fun o:Oper=>o.dst)):∀ (l l':List Oper) (t:Tr AV) (st:St),SamesL l l'→evOps P S nt ops l t st=evOps P S nt ops' l' t st
 | [],[],_,_,_=>rfl
 | [],_ :: _,_,_,h=>h.elim
 | _ :: _,[],_,_,h=>h.elim
 | ⟨d,op,ty,ps,af,g⟩ :: l,⟨d',op',ty',ps',af',g'⟩ :: l',t,st,h=>by
  obtain ⟨⟨h1,h2,h3⟩,h4⟩:=h
  have h1:op=op':=h1
  have h2:d=d':=h2
  have h3:g=g':=h3
  subst h1; subst h2; subst h3
  have ih:=fun t st=>evOps_sames (nt:=nt) hd l l' t st h4
  have hk:evOps P S nt ops l=evOps P S nt ops' l':=funext fun t=>funext fun st=>ih t st
  cases g with
  | none=>rw [evOps_cons,evOps_cons,hk]
  | some jb =>
   obtain ⟨j,b⟩:=jb
   rw [evOps_guard,evOps_guard,hk,guardBy_bind,guardBy_bind,hd]
   rfl
theorem recs_mid {nt:Nat} {ops:Array Oper}:∀ (pre rest:List Oper) (t:Tr AV) (st:St) (R:List Rec),recs P S nt ops (pre++rest) t st=some R →
  ∃ r,R[pre.length]? = some r∧∀ rest',evOps P S nt ops (pre++rest') t st=evOps P S nt ops rest' r.t r.st:=by
 have head:∀ (l:List Oper) (t:Tr AV) (st:St) (R:List Rec),recs P S nt ops l t st=some R→∃ r,R[0]? = some r∧r.t=t∧r.st=st:=by
  intro l t st R h
  have onr:∀ (r:Rec) (q:Option (Tr AV)) (k:Tr AV→Option (List Rec)),recsT r q k=some R→R[0]? = some r:=by
   intro r q k h
   cases q with
   | none=>cases h
   | some t =>
    have h:onRec r (k t)=some R:=h
    cases hk:k t with
    | none=>rw [hk] at h; cases h
    | some l=>rw [hk] at h; cases h; rfl
  cases l with
  | nil=>cases h; exact ⟨_,rfl,rfl,rfl⟩
  | cons o l =>
   have h:(match guardOk ops t o with
    | some true=>recsV nt t st o.dst (evOp P S t st o) (recs P S nt ops l)
    | some false=>recsT ⟨t,st,.un,false⟩ (putT nt t o.dst .un) fun t=>recs P S nt ops l t st
    | none=>none)=some R:=h
   cases hg:guardOk ops t o with
   | none=>rw [hg] at h; cases h
   | some b =>
    rw [hg] at h
    cases b with
    | false=>exact ⟨_,onr _ _ _ h,rfl,rfl⟩
    | true =>
     have h:recsV nt t st o.dst (evOp P S t st o) (recs P S nt ops l)=some R:=h
     cases he:evOp P S t st o with
     | none=>rw [he] at h; cases h
     | some p=>rw [he] at h; exact ⟨_,onr _ _ _ h,rfl,rfl⟩
 intro pre
 induction pre with
 | nil =>
  intro rest t st R h
  obtain ⟨r,h1,h2,h3⟩:=head _ _ _ _ h
  exact ⟨r,h1,fun rest'=>by rw [h2,h3]; rfl⟩
 | cons o pre ih =>
  intro rest t st R h
  have h:(match guardOk ops t o with
   | some true=>recsV nt t st o.dst (evOp P S t st o) (recs P S nt ops (pre++rest))
   | some false=>recsT ⟨t,st,.un,false⟩ (putT nt t o.dst .un) fun t=>recs P S nt ops (pre++rest) t st
   | none=>none)=some R:=h
  have e1:∀ rest',evOps P S nt ops (o :: pre++rest') t st=onG P S nt o t st (evOps P S nt ops (pre++rest')) (guardOk ops t o):=fun _=>rfl
  have tl:∀ (r:Rec) (q:Option (Tr AV)) (st':St),recsT r q (fun t=>recs P S nt ops (pre++rest) t st')=some R→∃ r',R[pre.length+1]? = some r'∧∀ rest',onT q (fun t=>evOps P S nt ops (pre++rest') t st')=evOps P S nt ops rest' r'.t r'.st:=by
   intro r q st' h
   cases q with
   | none=>cases h
   | some t' =>
    have h:onRec r (recs P S nt ops (pre++rest) t' st')=some R:=h
    cases hk:recs P S nt ops (pre++rest) t' st' with
    | none=>rw [hk] at h; cases h
    | some R' =>
     rw [hk] at h; cases h
     obtain ⟨r',h1,h2⟩:=ih rest t' st' R' hk
     exact ⟨r',by simpa using h1,fun rest'=>by rw [onT_some]; exact h2 rest'⟩
  cases hg:guardOk ops t o with
  | none=>rw [hg] at h; cases h
  | some b =>
   rw [hg] at h
   cases b with
   | false =>
    obtain ⟨r',h1,h2⟩:=tl _ _ _ h
    exact ⟨r',h1,fun rest'=>by rw [e1,hg]; exact h2 rest'⟩
   | true =>
    have h:recsV nt t st o.dst (evOp P S t st o) (recs P S nt ops (pre++rest))=some R:=h
    cases he:evOp P S t st o with
    | none=>rw [he] at h; cases h
    | some p =>
     rw [he] at h
     obtain ⟨v,st'⟩:=p
     obtain ⟨r',h1,h2⟩:=tl _ _ _ h
     refine ⟨r',h1,fun rest'=>?_⟩
     rw [e1,hg]
     show onV nt t o.dst (evOp P S t st o) _=_
     rw [he]
     exact h2 rest'
theorem evOps_swap {nt:Nat} {ops:Array Oper} {ty1 ty2 t1 t2:TypeId} {a1 v1 a2 v2:Operand} {p1 p2:String} {f1 f2:Array Edge} {l:List Oper} {t:Tr AV} {st:St} {r1 o1 r2 o2 g1 g2:Nat} {c1 c2:List AV} {b1 b2:List Nat}
  (h1:evO t a1 = .p r1 o1) (h2:evO t a2 = .p r2 o2) (k1:st.ce r1=some (c1,g1,b1)) (k2:st.ce r2=some (c2,g2,b2)) (hr:r1≠r2) (hg:g1≠g2) :
  evOps P S nt ops (⟨none,.store ty1 a1 v1,t1,p1,f1,none⟩ :: ⟨none,.store ty2 a2 v2,t2,p2,f2,none⟩ :: l) t st=evOps P S nt ops (⟨none,.store ty2 a2 v2,t2,p2,f2,none⟩ :: ⟨none,.store ty1 a1 v1,t1,p1,f1,none⟩ :: l) t st:=by
 have one:∀ (ty t0:TypeId) (a v:Operand) (p:String) (f:Array Edge) (m:List Oper) (s:St),evOps P S nt ops (⟨none,.store ty a v,t0,p,f,none⟩ :: m) t s=match storeAt P ty s (evO t a) (evO t v) with | some s'=>evOps P S nt ops m t s' | none=>.no:=by
  intro ty t0 a v p f m s
  rw [evOps_cons,opH_store]
  cases storeAt P ty s (evO t a) (evO t v) with
  | none=>rfl
  | some s'=>rw [done_some,onV_some,putT_none,onT_some]
 have st2:∀ (ty:TypeId) (s:St) (r o:Nat) (v:AV),storeAt P ty s (.p r o) v=match v.cells with | some l=>if hasInfo P ty=true∧l.length=szOf P ty then wt s r o l else none | none=>none:=by
  intro ty s r o v
  show storeC P ty s r o v.cells=_
  cases v.cells with
  | none=>rfl
  | some l =>
   show (@Bool.rec (fun _=>Option St) none (wt s r o l) (hasInfo P ty && Nat.beq l.length (szOf P ty)))=if hasInfo P ty=true∧l.length=szOf P ty then wt s r o l else none
   by_cases hh:hasInfo P ty=true∧l.length=szOf P ty
   ·rw [if_pos hh,hh.1,nbeq,decide_eq_true hh.2]; rfl
   ·rw [if_neg hh]
    have:(hasInfo P ty && Nat.beq l.length (szOf P ty))=false:=by
     rw [Bool.eq_false_iff]; intro h'
     rw [Bool.and_eq_true] at h'
     exact hh ⟨h'.1,Nat.eq_of_beq_eq_true h'.2⟩
    rw [this]
 rw [one,one]
 simp only [h1,h2,one]
 simp only [st2]
 cases (evO t v1).cells with
 | none =>
  cases (evO t v2).cells with
  | none=>rfl
  | some l2 =>
   simp only
   split <;> rfl
 | some l1 =>
  cases (evO t v2).cells with
  | none =>
   simp only
   split <;> rfl
  | some l2 =>
   simp only
   have key:=wt_comm (o1:=o1) (o2:=o2) (v1:=l1) (v2:=l2) k1 k2 hr hg
   by_cases q1:hasInfo P ty1=true∧l1.length=szOf P ty1
   ·by_cases q2:hasInfo P ty2=true∧l2.length=szOf P ty2
    ·simp only [if_pos q1,if_pos q2]
     generalize hA:wt st r1 o1 l1=A at *
     generalize hB:wt st r2 o2 l2=B at *
     cases A with
     | none =>
      cases B with
      | none=>rfl
      | some s2 =>
       simp only at key ⊢
       rw [← key]
     | some s1 =>
      cases B with
      | none =>
       simp only at key ⊢
       rw [key]
      | some s2 =>
       simp only at key ⊢
       rw [key]
    ·simp only [if_pos q1,if_neg q2]
     cases wt st r1 o1 l1 <;> rfl
   ·by_cases q2:hasInfo P ty2=true∧l2.length=szOf P ty2
    ·simp only [if_neg q1,if_pos q2]
     cases wt st r2 o2 l2 <;> rfl
    ·simp only [if_neg q1,if_neg q2]
end
end Go.Ev
namespace Go.Ev
noncomputable section
theorem addEdge_get (x:Nat):∀ (y:Nat) (l:List Oper) (j:Nat),(addEdge x y l)[j]? = (l[j]?).map fun o=>if j=y then withEdge x o else o
 | _,[],j=>by simp [addEdge]
 | 0,o :: l,0=>by simp [addEdge]
 | 0,o :: l,j+1=>by simp [addEdge]
 | y+1,o :: l,0=>by simp [addEdge]
 | y+1,o :: l,j+1=>by
  have:=addEdge_get x y l j
  simp only [addEdge,List.getElem?_cons_succ,this]
  simp
theorem addEdge_len (x:Nat):∀ (y:Nat) (l:List Oper),(addEdge x y l).length=l.length
 | y,[]=>by cases y <;> rfl
 | 0,o :: l=>rfl
 | y+1,o :: l=>by simp [addEdge,addEdge_len x y l]
theorem mapI_get (f:Nat→Oper→Oper):∀ (i:Nat) (l:List Oper) (j:Nat),(mapI f i l)[j]? = (l[j]?).map (f (i+j))
 | i,[],j=>by simp [mapI]
 | i,o :: l,0=>by simp [mapI]
 | i,o :: l,j+1=>by
  have:=mapI_get f (i+1) l j
  simp only [mapI,List.getElem?_cons_succ,this]
  rw [show i+1+j=i+(j+1) by omega]
theorem mapI_len (f:Nat→Oper→Oper):∀ (i:Nat) (l:List Oper),(mapI f i l).length=l.length
 | i,[]=>rfl
 | i,o :: l=>by simp [mapI,mapI_len f (i+1) l]
theorem swapI_lo (k:Nat):swapI k k=k+1:=by unfold swapI; rw [nbeq,decide_eq_true rfl]; rfl
theorem swapI_hi (k:Nat):swapI k (k+1)=k:=by unfold swapI; rw [nbeq,nbeq,decide_eq_false (by omega),decide_eq_true rfl]; rfl
theorem swapI_ne {k i:Nat} (h1:i≠k) (h2:i≠k+1):swapI k i=i:=by unfold swapI; rw [nbeq,nbeq,decide_eq_false h1,decide_eq_false h2]; rfl
theorem swapI_swapI (k i:Nat):swapI k (swapI k i)=i:=by
 by_cases h1:i=k
 ·subst h1; rw [swapI_lo,swapI_hi]
 ·by_cases h2:i=k+1
  ·subst h2; rw [swapI_hi,swapI_lo]
  ·rw [swapI_ne h1 h2,swapI_ne h1 h2]
theorem swapI_lt {k i n:Nat} (hk:k+1 < n) (h:i < n):swapI k i < n:=by
 by_cases h1:i=k
 ·subst h1; rw [swapI_lo]; exact hk
 ·by_cases h2:i=k+1
  ·subst h2; rw [swapI_hi]; omega
  ·rw [swapI_ne h1 h2]; exact h
theorem swapL_get:∀ (k:Nat) (l:List Oper) (j:Nat),k+1 < l.length→(swapL k l)[j]? = l[swapI k j]?
 | 0,x :: y :: r,0,_=>by rw [swapI_lo]; rfl
 | 0,x :: y :: r,1,_=>by rw [swapI_hi]; rfl
 | 0,x :: y :: r,j+2,_=>by rw [swapI_ne (by omega) (by omega)]; rfl
 | 0,[],j,h=>by simp at h
 | 0,[x],j,h=>by simp at h
 | k+1,[],j,h=>by simp at h
 | k+1,o :: r,0,h=>by rw [swapI_ne (by omega) (by omega)]; rfl
 | k+1,o :: r,j+1,h=>by
  have ih:=swapL_get k r j (by simpa using h)
  show (swapL k r)[j]? = _
  rw [ih]
  by_cases h1:j=k
  ·subst h1; rw [swapI_lo,swapI_lo]; rfl
  ·by_cases h2:j=k+1
   ·subst h2; rw [swapI_hi,swapI_hi]; rfl
   ·rw [swapI_ne h1 h2,swapI_ne (by omega) (by omega)]; rfl
theorem swapL_len:∀ (k:Nat) (l:List Oper),(swapL k l).length=l.length
 | 0,[]=>rfl
 | 0,[x]=>rfl
 | 0,x :: y :: r=>rfl
 | k+1,[]=>rfl
 | k+1,o :: r=>by simp [swapL,swapL_len k r]
theorem otherWay_get {k:Nat} {pops:Array Oper} (hk:k+1 < pops.size) (i:Nat):(otherWay k pops)[i]? = (pops[swapI k i]?).map (edB k (swapI k i)):=by
 unfold otherWay
 rw [List.getElem?_toArray,swapL_get _ _ _ (by rw [mapI_len]; simpa using hk),mapI_get,Nat.zero_add,Array.getElem?_toList]
theorem otherWay_size (k:Nat) (pops:Array Oper):(otherWay k pops).size=pops.size:=by
 unfold otherWay
 rw [List.size_toArray,swapL_len,mapI_len,Array.length_toList]
theorem edB_same (k i:Nat) (o:Oper):(edB k i o).op=o.op∧(edB k i o).dst=o.dst∧(edB k i o).guard=o.guard∧∀ ρ,execOp ρ (edB k i o)=execOp ρ o:=by
 unfold edB
 cases Nat.beq i k with
 | true=>exact ⟨rfl,rfl,rfl,fun _=>rfl⟩
 | false =>
  cases Nat.beq i (k+1) with
  | true=>exact ⟨rfl,rfl,rfl,fun _=>rfl⟩
  | false=>exact ⟨rfl,rfl,rfl,fun _=>rfl⟩
theorem perm_other {mops pops:Array Oper} {σ τ:Nat→Nat} (h:Perm mops pops σ τ) {k:Nat} (hk:k+1 < pops.size) (hg:∀ o ∈ pops.toList,guardOut k o=true):Perm mops (otherWay k pops) (fun i=>σ (swapI k i)) (fun i=>swapI k (τ i)):=by
 have hsz:=otherWay_size k pops
 refine ⟨by rw [hsz]; exact h.size,fun i hi=>?_,fun i hi=>?_,fun i hi=>?_,fun i hi=>?_,fun i o ho=>?_⟩
 ·rw [hsz] at hi ⊢; exact h.lt _ (swapI_lt hk hi)
 ·rw [hsz] at hi ⊢; exact swapI_lt hk (h.tlt _ hi)
 ·rw [hsz] at hi; simp only [swapI_swapI]; exact h.st _ hi
 ·rw [hsz] at hi; simp only [h.ts _ (swapI_lt hk hi),swapI_swapI]
 ·rw [otherWay_get hk] at ho
  cases hp:pops[swapI k i]? with
  | none=>rw [hp] at ho; cases ho
  | some o0 =>
   rw [hp] at ho
   cases ho
   obtain ⟨o',h1,h2,h3,h4,h5⟩:=h.op _ _ hp
   obtain ⟨e1,e2,e3,e4⟩:=edB_same k (swapI k i) o0
   refine ⟨o',h1,fun ρ=>by rw [h2,e4],by rw [h3,e1],by rw [h4,e2],fun tmps=>?_⟩
   rw [h5]
   unfold Region.wanted
   rw [e3]
   cases hgd:o0.guard with
   | none=>rfl
   | some gw =>
    obtain ⟨g,w⟩:=gw
    have hgo:=hg o0 (Array.mem_toList_iff.2 (Array.mem_of_getElem? hp))
    unfold guardOut at hgo
    rw [hgd] at hgo
    simp only [Bool.and_eq_true,Bool.not_eq_true',nbeq,decide_eq_false_iff_not] at hgo
    have:yielded pops tmps g=yielded (otherWay k pops) tmps g:=by
     unfold yielded
     rw [otherWay_get hk,swapI_ne hgo.1 hgo.2]
     cases hpg:pops[g]? with
     | none=>rfl
     | some og =>
      have:=(edB_same k g og).2.1
      simp [this]
    simp only [this]
theorem more_get (x y:Nat) (ops:Array Oper) (j:Nat):(moreEdge x y ops)[j]? = (ops[j]?).map fun o=>if j=y then withEdge x o else o:=by
 unfold moreEdge
 rw [List.getElem?_toArray,addEdge_get,Array.getElem?_toList]
theorem more_size (x y:Nat) (ops:Array Oper):(moreEdge x y ops).size=ops.size:=by
 unfold moreEdge
 rw [List.size_toArray,addEdge_len,Array.length_toList]
theorem perm_more {x y:Nat} {ops pops:Array Oper} {σ τ:Nat→Nat} (h:Perm (moreEdge x y ops) pops σ τ):Perm ops pops σ τ:=by
 refine ⟨by rw [← h.size,more_size],h.lt,h.tlt,h.st,h.ts,fun i o ho=>?_⟩
 obtain ⟨o',h1,h2,h3,h4,h5⟩:=h.op i o ho
 rw [more_get] at h1
 cases hp:ops[σ i]? with
 | none=>rw [hp] at h1; cases h1
 | some o0 =>
  rw [hp] at h1
  simp only [Option.map_some,Option.some.injEq] at h1
  have yl:∀ tmps g,yielded (moreEdge x y ops) tmps g=yielded ops tmps g:=by
   intro tmps g
   unfold yielded
   rw [more_get]
   cases hg:ops[g]? with
   | none=>rfl
   | some og =>
    by_cases e:g=y
    ·simp [e,withEdge]
    ·simp [e]
  have hw:∀ tmps,Region.wanted o' (yielded (moreEdge x y ops) tmps)=Region.wanted o0 (yielded ops tmps):=by
   intro tmps
   have:o'.guard=o0.guard:=by subst h1; by_cases e:σ i=y <;> simp [e,withEdge]
   unfold Region.wanted
   rw [this]
   cases o0.guard with
   | none=>rfl
   | some gw=>obtain ⟨g,w⟩:=gw; simp only [yl]
  refine ⟨o0,rfl,fun ρ=>?_,?_,?_,fun tmps=>by rw [← hw,h5]⟩
  ·rw [← h2]; subst h1; by_cases e:σ i=y <;> simp only [e,if_true,if_false] <;> rfl
  ·rw [← h3]; subst h1; by_cases e:σ i=y <;> simp [e,withEdge]
  ·rw [← h4]; subst h1; by_cases e:σ i=y <;> simp [e,withEdge]
theorem first_of {L:List Nat} (hn:L.Nodup) {x y:Nat} (hx:x ∈ L) (hy:y ∈ L) (hxy:x≠y):(∀ pre post,L=pre++y :: post→x ∈ pre)∨(∀ pre post,L=pre++x :: post→y ∈ pre):=by
 induction L with
 | nil=>cases hx
 | cons a L ih =>
  have hn':=List.nodup_cons.1 hn
  by_cases ha:a=x
  ·left
   intro pre post h
   cases pre with
   | nil =>
    have:=(List.cons.inj h).1
    exact absurd (ha.symm.trans this) hxy
   | cons b pre=>rw [(List.cons.inj h).1] at ha; rw [← ha]; exact List.mem_cons_self ..
  ·by_cases hb:a=y
   ·right
    intro pre post h
    cases pre with
    | nil=>exact absurd (List.cons.inj h).1 ha
    | cons b pre=>rw [(List.cons.inj h).1] at hb; rw [← hb]; exact List.mem_cons_self ..
   ·have hx':x ∈ L:=by rcases List.mem_cons.1 hx with e | e; exact absurd e.symm ha; exact e
    have hy':y ∈ L:=by rcases List.mem_cons.1 hy with e | e; exact absurd e.symm hb; exact e
    rcases ih hn'.2 hx' hy' with h1 | h1
    ·left
     intro pre post h
     cases pre with
     | nil=>exact absurd (List.cons.inj h).1 hb
     | cons b pre=>exact List.mem_cons_of_mem _ (h1 pre post (List.cons.inj h).2)
    ·right
     intro pre post h
     cases pre with
     | nil=>exact absurd (List.cons.inj h).1 ha
     | cons b pre=>exact List.mem_cons_of_mem _ (h1 pre post (List.cons.inj h).2)
theorem samesL_of:∀ {l l':List Oper},l.length=l'.length→(∀ (j:Nat) (o o':Oper),l[j]? = some o→l'[j]? = some o'→Sames o o')→SamesL l l'
 | [],[],_,_=>trivial
 | [],_ :: _,h,_=>by simp at h
 | _ :: _,[],h,_=>by simp at h
 | o :: l,o' :: l',h,hs=>⟨hs 0 o o' rfl rfl,samesL_of (by simpa using h) fun j a b h1 h2=>hs (j+1) a b (by simpa using h1) (by simpa using h2)⟩
theorem swapL_split:∀ (pre post:List Oper) (x y:Oper),swapL pre.length (pre++x :: y :: post)=pre++y :: x :: post
 | [],post,x,y=>rfl
 | o :: pre,post,x,y=>by
  show o :: swapL pre.length (pre++x :: y :: post)=_
  rw [swapL_split pre post x y]; rfl
theorem stAt_spec {pops:Array Oper} {i:Nat} (h:stAt pops i=true):∃ ty a v t0 ps f,pops[i]? = some ⟨none,.store ty a v,t0,ps,f,none⟩:=by
 unfold stAt at h
 cases hp:pops[i]? with
 | none=>rw [hp] at h; cases h
 | some o =>
  rw [hp] at h
  obtain ⟨d,op,t0,ps,f,g⟩:=o
  have h:isSt ⟨d,op,t0,ps,f,g⟩=true:=h
  unfold isSt at h
  simp only at h
  split at h
  ·exact ⟨_,_,_,_,_,_,rfl⟩
  ·cases h
theorem ways_same {P:Program} {S:Self} {nt:Nat} {pops:Array Oper} {k:Nat} {t:Tr AV} {st:St} {RA RB:List Rec} (h1:stAt pops k=true) (h2:stAt pops (k+1)=true)
  (hA:recs P S nt pops pops.toList t st=some RA) (hB:recs P S nt (otherWay k pops) (otherWay k pops).toList t st=some RB) (hap:apartAt pops k RA=true):lastOf RB=lastOf RA:=by
 obtain ⟨ty1,a1,v1,t1,p1,f1,e1⟩:=stAt_spec h1
 obtain ⟨ty2,a2,v2,t2,p2,f2,e2⟩:=stAt_spec h2
 have hk:k+1 < pops.size:=(Array.getElem?_eq_some_iff.1 e2).1
 have l1:=(recs_last pops.toList t st).2 RA hA
 have l2:=(recs_last (otherWay k pops).toList t st).2 RB hB
 rw [← l1.2,← l2.2]
 have hsplit:pops.toList=pops.toList.take k++(⟨none,.store ty1 a1 v1,t1,p1,f1,none⟩:Oper) :: ⟨none,.store ty2 a2 v2,t2,p2,f2,none⟩ :: pops.toList.drop (k+2):=by
  have g1:pops.toList[k]'(by simp; omega)=⟨none,.store ty1 a1 v1,t1,p1,f1,none⟩:=by
   have:=(Array.getElem?_eq_some_iff.1 e1).2
   simpa using this
  have g2:pops.toList[k+1]'(by simp; omega)=⟨none,.store ty2 a2 v2,t2,p2,f2,none⟩:=by
   have:=(Array.getElem?_eq_some_iff.1 e2).2
   simpa using this
  rw [← g1,← g2,← List.drop_eq_getElem_cons (by simp; omega),← List.drop_eq_getElem_cons (by simp; omega),List.take_append_drop]
 have hlen:(pops.toList.take k).length=k:=by rw [List.length_take]; simp; omega
 generalize pops.toList.take k=pre at hsplit hlen
 generalize pops.toList.drop (k+2)=post at hsplit
 have hsame:SamesL (otherWay k pops).toList (pre++(⟨none,.store ty2 a2 v2,t2,p2,f2,none⟩:Oper) :: ⟨none,.store ty1 a1 v1,t1,p1,f1,none⟩ :: post):=by
  rw [← swapL_split,hlen,← hsplit]
  refine samesL_of (by rw [Array.length_toList,otherWay_size,swapL_len,Array.length_toList]) fun j o o' q1 q2=>?_
  rw [swapL_get _ _ _ (by simpa using hk),Array.getElem?_toList] at q2
  rw [Array.getElem?_toList,otherWay_get hk,q2] at q1
  cases q1
  obtain ⟨z1,z2,z3,-⟩:=edB_same k (swapI k j) o'
  exact ⟨z1,z2,z3⟩
 have hdst:∀ j:Nat,((otherWay k pops)[j]?).bind (fun o:Oper=>o.dst)=(pops[j]?).bind (fun o:Oper=>o.dst):=by
  intro j
  rw [otherWay_get hk]
  by_cases hj1:j=k
  ·subst hj1; rw [swapI_lo,e1,e2]
   have:=(edB_same j (j+1) (⟨none,.store ty2 a2 v2,t2,p2,f2,none⟩:Oper)).2.1
   simp [this]
  ·by_cases hj2:j=k+1
   ·subst hj2; rw [swapI_hi,e1,e2]
    have:=(edB_same k k (⟨none,.store ty1 a1 v1,t1,p1,f1,none⟩:Oper)).2.1
    simp [this]
   ·rw [swapI_ne hj1 hj2]
    cases pops[j]? with
    | none=>rfl
    | some o =>
     have:=(edB_same k j o).2.1
     simp [this]
 rw [evOps_sames hdst _ _ t st hsame,hsplit]
 have hA':=hA
 rw [hsplit] at hA'
 obtain ⟨r,r1,r2⟩:=recs_mid pre _ t st RA hA'
 rw [hlen] at r1
 rw [r2,r2]
 unfold apartAt at hap
 rw [r1,e1,e2] at hap
 simp only [apart2] at hap
 cases hp1:(evO r.t a1).asP with
 | none=>rw [hp1] at hap; cases hap
 | some q1 =>
  obtain ⟨r1',o1⟩:=q1
  cases hp2:(evO r.t a2).asP with
  | none=>rw [hp1,hp2] at hap; cases hap
  | some q2 =>
   obtain ⟨r2',o2⟩:=q2
   rw [hp1,hp2] at hap
   simp only at hap
   cases hc1:r.st.ce r1' with
   | none=>rw [hc1] at hap; cases hap
   | some c1 =>
    obtain ⟨cl1,g1,b1⟩:=c1
    cases hc2:r.st.ce r2' with
    | none=>rw [hc1,hc2] at hap; cases hap
    | some c2 =>
     obtain ⟨cl2,g2,b2⟩:=c2
     rw [hc1,hc2] at hap
     simp only [Bool.and_eq_true,Bool.not_eq_true',nbeq,decide_eq_false_iff_not] at hap
     exact (evOps_swap (AV.asP_some hp1) (AV.asP_some hp2) hc1 hc2 hap.1 hap.2).symm
theorem planT_spec {ops:Array Oper} {m:PlanT} (h:planT ops=some m):∃ x y,x < ops.size∧y < ops.size∧x≠y∧planSW (moreEdge x y ops) x y=some m.m∧numAt m.m.τ x=m.k∧numAt m.m.τ y=m.k+1∧plan (otherWay m.k m.m.pops)=some m.flB ∧
  stAt m.m.pops m.k=true∧stAt m.m.pops (m.k+1)=true∧∀ o ∈ m.m.pops.toList,guardOut m.k o=true:=by
 unfold planT at h
 cases hb:befs ops.toList [] with
 | none=>rw [hb] at h; cases h
 | some bs =>
  rw [hb] at h
  simp only at h
  cases hq:openPair (ops.toList.map fun o=>kind o.op) (ops.toList.map fun o=>kind o.op) bs 0 with
  | none=>rw [hq] at h; cases h
  | some xy =>
   obtain ⟨x,y⟩:=xy
   rw [hq] at h
   simp only [planT1] at h
   cases hc:(Nat.blt x ops.size && (Nat.blt y ops.size && !Nat.beq x y)) with
   | false=>rw [hc] at h; cases h
   | true =>
    rw [hc] at h
    simp only [Bool.and_eq_true,Bool.not_eq_true',nbeq,decide_eq_false_iff_not] at hc
    obtain ⟨c1,c2,c3⟩:=hc
    simp only [cond_true] at h
    cases hm:planSW (moreEdge x y ops) x y with
    | none=>rw [hm] at h; cases h
    | some pm =>
     rw [hm] at h
     simp only [planT2] at h
     cases hd:Nat.beq (numAt pm.τ y) (numAt pm.τ x+1) with
     | false=>rw [hd] at h; cases h
     | true =>
      rw [hd] at h
      simp only [cond_true] at h
      cases hf:plan (otherWay (numAt pm.τ x) pm.pops) with
      | none=>rw [hf] at h; cases h
      | some fl =>
       rw [hf] at h
       simp only [planT3] at h
       cases hg:(stAt pm.pops (numAt pm.τ x) && (stAt pm.pops (numAt pm.τ x+1) && pm.pops.toList.all (guardOut (numAt pm.τ x)))) with
       | false=>rw [hg] at h; cases h
       | true =>
        rw [hg] at h
        cases h
        rw [Bool.and_eq_true,Bool.and_eq_true] at hg
        exact ⟨x,y,by simpa [Nat.blt_eq] using c1,by simpa [Nat.blt_eq] using c2,c3,hm,rfl,Nat.eq_of_beq_eq_true hd,hf,hg.1,hg.2.1,List.all_eq_true.1 hg.2.2⟩
theorem drawT_spec {E:Env} {n0:Nat} {b:Frame} {st:St} {w:World} {x:Ctx} (hS:SelfOK x.P x.S) {id:Nat} {ops:Array Oper} {t:Tr AV} {a:Act} {k:List Item} (hr:Rel E w.heap st) (ht:ConcT E x.nt t a.tmps) (hm:Marks n0 b.defers E w.heap st a.defers)
  (hl:(drawT x.P x.S x.nt t st (planT ops)).lim E.top):Arr x.P n0 E x.nt b w st (fun cs=>lone (b.atR a (.code (.region id ops true) :: k)) cs w) k (drawT x.P x.S x.nt t st (planT ops)):=by
 cases hp:planT ops with
 | none=>trivial
 | some m =>
  rw [hp] at hl
  obtain ⟨u,y,hu,hy,huy,hmm,hτx,hτy,hflB,hs1,hs2,hgo⟩:=planT_spec hp
  obtain ⟨hplA,hperm,hedge,hord⟩:=planSW_spec hmm
  unfold drawT at hl ⊢
  simp only at hl ⊢
  cases hA:recs x.P x.S x.nt m.m.pops m.m.pops.toList t st with
  | none=>trivial
  | some RA =>
   cases hB:recs x.P x.S x.nt (otherWay m.k m.m.pops) (otherWay m.k m.m.pops).toList t st with
   | none=>trivial
   | some RB =>
    rw [hA,hB] at hl
    unfold drawT2 at hl ⊢
    simp only at hl ⊢
    cases hc:(m.m.fl.all (recheck x.P x.S m.m.pops RA) && (m.flB.all (recheck x.P x.S (otherWay m.k m.m.pops) RB) && apartAt m.m.pops m.k RA)) with
    | false=>trivial
    | true =>
     rw [hc] at hl
     simp only [cond_true] at hl ⊢
     rw [Bool.and_eq_true,Bool.and_eq_true] at hc
     obtain ⟨cA,cB,cap⟩:=hc
     have hk:m.k+1 < m.m.pops.size:=by
      obtain ⟨_,_,_,_,_,_,e2⟩:=stAt_spec hs2
      exact (Array.getElem?_eq_some_iff.1 e2).1
     have permA:Perm ops m.m.pops (numAt m.m.σ) (numAt m.m.τ):=perm_more hperm
     have permB:=perm_other permA hk hgo
     have hedge':∀ j o,ops[j]? = some o→∀ e ∈ o.after,Region.binds .any e=true→e.on < j:=by
      intro j o ho e he hb
      have hmo:=more_get u y ops j
      rw [ho] at hmo
      by_cases hj:j=y
      ·rw [Option.map_some,if_pos hj] at hmo
       exact hedge j _ hmo e (by unfold withEdge; exact Array.mem_push.2 (.inl he)) hb
      ·rw [Option.map_some,if_neg hj] at hmo
       exact hedge j _ hmo e he hb
     have hsz:ops.size=m.m.pops.size:=permA.size
     obtain ⟨l1,l2,l3⟩:=lin_spec hedge' (w.tape w.drawn (.order b.fn id))
     have ask:∀ j o,j < ops.size→m.m.pops[numAt m.m.τ j]? = some o→∀ e ∈ o.after,Region.binds .any e=true→∃ i,e.on=numAt m.m.τ i∧i < ops.size ∧
       ((∀ pre post,Region.linearise .any ops (w.tape w.drawn (.order b.fn id))=pre++j :: post→i ∈ pre)∨(j=y∧i=u)):=by
      intro j o hj ho e he hb
      have hmo:=more_get u y ops j
      rw [Array.getElem?_eq_getElem hj,Option.map_some] at hmo
      obtain ⟨e',he',hb',h1⟩:=hord j o _ hmo ho e he hb
      have orig:e' ∈ (ops[j]).after→∃ i,e.on=numAt m.m.τ i∧i < ops.size∧((∀ pre post,Region.linearise .any ops (w.tape w.drawn (.order b.fn id))=pre++j :: post→i ∈ pre)∨(j=y∧i=u)):=by
       intro hin
       have:=hedge' j ops[j] (Array.getElem?_eq_getElem hj) e' hin hb'
       exact ⟨e'.on,h1,by omega,.inl fun pre post hL=>l3 pre j post _ hL (Array.getElem?_eq_getElem hj) e' hin hb'⟩
      by_cases hjy:j=y
      ·rw [if_pos hjy] at he'
       unfold withEdge at he'
       rcases Array.mem_push.1 he' with hin | rfl
       ·exact orig hin
       ·exact ⟨u,h1,hu,.inr ⟨hjy,rfl⟩⟩
      ·rw [if_neg hjy] at he'
       exact orig he'
     have hLm:∀ i,i < ops.size→i ∈ Region.linearise .any ops (w.tape w.drawn (.order b.fn id)):=fun i hi=>(l2 i).2 hi
     rcases first_of l1 (hLm u hu) (hLm y hy) huy with hfirst | hfirst
     ·
      have hres:drawR x.P x.S m.m.pops m.m.fl (recs x.P x.S x.nt m.m.pops m.m.pops.toList t st)=lastOf RA:=by
       rw [hA]
       show cond (m.m.fl.all (recheck x.P x.S m.m.pops RA)) (lastOf RA) .no=_
       rw [cA]; rfl
      have:=drawR_lin (b:=b) (id:=id) (k:=k) hS permA hedge' hr ht hm (fun pre j post o hL1 ho e he hb=>by
       have hj:j < ops.size:=(l2 j).1 (by rw [hL1]; simp)
       obtain ⟨i,q1,q2,q3⟩:=ask j o hj ho e he hb
       rw [q1,permA.st i (by rw [← hsz]; exact q2)]
       rcases q3 with q3 | ⟨rfl,rfl⟩
       ·exact q3 pre post hL1
       ·exact hfirst pre post hL1) hplA (by rw [hres]; exact hl)
      rw [hres] at this
      exact this
     ·have hres:drawR x.P x.S (otherWay m.k m.m.pops) m.flB (recs x.P x.S x.nt (otherWay m.k m.m.pops) (otherWay m.k m.m.pops).toList t st)=lastOf RA:=by
       rw [hB]
       show cond (m.flB.all (recheck x.P x.S (otherWay m.k m.m.pops) RB)) (lastOf RB) .no=_
       rw [cB,← ways_same hs1 hs2 hA hB cap]; rfl
      have:=drawR_lin (b:=b) (id:=id) (k:=k) hS permB hedge' hr ht hm (fun pre j post o hL1 ho e he hb=>by
       have hj:j < ops.size:=(l2 j).1 (by rw [hL1]; simp)
       rw [otherWay_get hk,swapI_swapI] at ho
       cases ho0:m.m.pops[numAt m.m.τ j]? with
       | none=>rw [ho0] at ho; cases ho
       | some o0 =>
        rw [ho0] at ho
        cases ho
        have hcase:(∃ e0 ∈ o0.after,e=swE m.k e0∧(numAt m.m.τ j=m.k+1→e0.on≠m.k))∨(numAt m.m.τ j=m.k∧e=swE m.k (edgeAt (m.k+1))):=by
         have he':=he
         unfold edB at he'
         by_cases g1:numAt m.m.τ j=m.k
         ·rw [nbeq,decide_eq_true g1] at he'
          have he'':e ∈ (((o0.after.push (edgeAt (m.k+1))).toList.map (swE m.k)).toArray):=he'
          rw [List.mem_toArray,List.mem_map] at he''
          obtain ⟨e0,h0,rfl⟩:=he''
          rcases Array.mem_push.1 (Array.mem_toList_iff.1 h0) with h0 | rfl
          ·exact .inl ⟨e0,h0,rfl,fun h=>by omega⟩
          ·exact .inr ⟨g1,rfl⟩
         ·rw [nbeq,decide_eq_false g1] at he'
          by_cases g2:numAt m.m.τ j=m.k+1
          ·rw [nbeq,decide_eq_true g2] at he'
           have he'':e ∈ (((((o0.after.toList.filter fun e=>!(Nat.beq e.on m.k)).toArray).toList).map (swE m.k)).toArray):=he'
           rw [List.mem_toArray,List.mem_map] at he''
           obtain ⟨e0,h0,rfl⟩:=he''
           have h0:e0 ∈ o0.after.toList.filter fun e=>!(Nat.beq e.on m.k):=by simpa using h0
           rw [List.mem_filter] at h0
           refine .inl ⟨e0,Array.mem_toList_iff.1 h0.1,rfl,fun _ hh=>?_⟩
           have:=h0.2
           rw [nbeq,decide_eq_true hh] at this
           cases this
          ·rw [nbeq,decide_eq_false g2] at he'
           have he'':e ∈ ((o0.after.toList.map (swE m.k)).toArray):=he'
           rw [List.mem_toArray,List.mem_map] at he''
           obtain ⟨e0,h0,rfl⟩:=he''
           exact .inl ⟨e0,Array.mem_toList_iff.1 h0,rfl,fun h=>absurd h g2⟩
        rcases hcase with ⟨e0,h0,rfl,hne⟩ | ⟨g1,rfl⟩
        ·have hb0:Region.binds .any e0=true:=hb
         obtain ⟨i,q1,q2,q3⟩:=ask j o0 hj ho0 e0 h0 hb0
         show numAt m.m.σ (swapI m.k (swapI m.k e0.on)) ∈ pre
         rw [swapI_swapI,q1,permA.st i (by rw [← hsz]; exact q2)]
         rcases q3 with q3 | ⟨rfl,rfl⟩
         ·exact q3 pre post hL1
         ·exact absurd (q1.trans hτx) (hne hτy)
        ·show numAt m.m.σ (swapI m.k (swapI m.k (m.k+1))) ∈ pre
         rw [swapI_swapI,← hτy,permA.st y (by rw [← hsz]; exact hy)]
         have hju:j=u:=by
          have h1:=permA.st j (by rw [← hsz]; exact hj)
          have h2:=permA.st u (by rw [← hsz]; exact hu)
          rw [g1,← hτx] at h1
          exact h1.symm.trans h2
         rw [hju] at hL1
         exact hfirst pre post hL1) hflB (by rw [hres]; exact hl)
      rw [hres] at this
      exact this
theorem drawST_spec {E:Env} {n0:Nat} {b:Frame} {st:St} {w:World} {x:Ctx} (hS:SelfOK x.P x.S) {id:Nat} {ops:Array Oper} {t:Tr AV} {a:Act} {k:List Item} (hr:Rel E w.heap st) (ht:ConcT E x.nt t a.tmps) (hm:Marks n0 b.defers E w.heap st a.defers)
  (hl:(drawST x.P x.S x.nt ops t st (planS ops)).lim E.top):Arr x.P n0 E x.nt b w st (fun cs=>lone (b.atR a (.code (.region id ops true) :: k)) cs w) k (drawST x.P x.S x.nt ops t st (planS ops)):=by
 cases hp:planS ops with
 | none =>
  rw [hp] at hl
  exact drawT_spec hS hr ht hm hl
 | some m =>
  have e:drawST x.P x.S x.nt ops t st (some m)=drawS x.P x.S x.nt t st (planS ops):=by rw [hp]; rfl
  rw [hp,e] at hl
  rw [e]
  exact drawS_spec hS hr ht hm hl
end
end Go.Ev
