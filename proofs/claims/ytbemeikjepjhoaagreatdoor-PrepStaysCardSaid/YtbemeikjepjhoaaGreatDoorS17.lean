/-
  Regions that draw their order: from the first operation to the last.
-/
import Derived.Test.YtbemeikjepjhoaaGreatDoorS16
namespace Go.Ev
noncomputable section
theorem leq_eq':∀ {a b:List Nat},leq a b=true→a=b
 | [],[],_=>rfl
 | x :: a,y :: b,h=>by
  have h':@Bool.rec (fun _=>Bool) false (leq a b) (Nat.beq x y)=true:=h
  cases hb:Nat.beq x y with
  | false=>rw [hb] at h'; cases h'
  | true =>
   rw [hb] at h'
   have e:x=y:=by simpa [nbeq] using hb
   rw [e,leq_eq' h']
 | [],_ :: _,h=>by cases h
 | _ :: _,[],h=>by cases h
theorem ieq_eq2 {a b:Int} (h:ieq a b=true):a=b:=by
 cases a <;> cases b <;> simp [ieq,nbeq] at h <;> first | (rw [h]) | cases h
theorem all2_eq {f:AV→AV→Bool} (hf:∀ a b,f a b=true→a=b):∀ {l m:List AV},all2 f l m=true→l=m
 | [],[],_=>rfl
 | a :: l,b :: m,h=>by
  unfold all2 at h
  cases hb:f a b with
  | false=>rw [hb] at h; cases h
  | true=>rw [hb] at h; rw [hf a b hb,all2_eq hf h]
 | [],_ :: _,h=>by cases h
 | _ :: _,[],h=>by cases h
theorem sameCap_eq {a b:Option Nat} (h:sameCap a b=true):a=b:=by
 cases a <;> cases b <;> simp [sameCap,nbeq] at h <;> first | rfl | (rw [h])
theorem avEq_eq:∀ (n:Nat) (a b:AV),avEq n a b=true→a=b:=by
 intro n
 induction n with
 | zero=>intro a b h; cases h
 | succ n ih =>
  intro a b h
  unfold avEq at h
  split at h
  ·rfl
  ·rename_i x y
   cases x <;> cases y <;> first | rfl | cases h
  ·simp only [Bool.and_eq_true] at h
   have h1:=of_decide_eq_true h.1
   rw [h1,ieq_eq2 h.2]
  ·rw [leq_eq' h]
  ·simp only [Bool.and_eq_true,nbeq,decide_eq_true_eq] at h
   rw [h.1,h.2]
  ·rfl
  ·simp only [nbeq,decide_eq_true_eq] at h
   rw [h]
  ·rw [all2_eq ih h]
  ·simp only [Bool.and_eq_true,nbeq,decide_eq_true_eq] at h
   rw [h.1,h.2.1,h.2.2.1,h.2.2.2.1,sameCap_eq h.2.2.2.2]
  ·rfl
  ·simp only [Bool.and_eq_true,nbeq,decide_eq_true_eq] at h
   rw [h.1,h.2.1,all2_eq ih h.2.2]
  ·simp only [nbeq,decide_eq_true_eq] at h
   rw [h]
  ·rfl
  ·simp only [nbeq,decide_eq_true_eq] at h
   rw [h]
  ·rfl
  ·simp only [Bool.and_eq_true,nbeq,decide_eq_true_eq] at h
   rw [h.1,ih _ _ h.2]
  ·rfl
  ·rw [all2_eq ih h]
  ·rw [all2_eq ih h]
  ·cases h
section
variable {P : Program} {S : Self} {nt : Nat} {ops : Array Oper} {bs : List Nat} {R : List Rec} {E : Env} {H0 : Array Obj}
theorem least_undone {D:Nat→Prop}:∀ (n:Nat),(∃ i,i < n∧¬ D i)→∃ i,i < n∧¬ D i∧∀ i',i' < i→D i'
 | 0,⟨i,h,_⟩=>by omega
 | n+1,h=>by
  by_cases h':∃ i,i < n∧¬ D i
  ·obtain ⟨i,h1,h2,h3⟩:=least_undone n h'
   exact ⟨i,by omega,h2,h3⟩
  ·obtain ⟨i,h1,h2⟩:=h
   have:i=n:=by
    rcases Nat.lt_or_ge i n with h3 | h3
    ·exact absurd ⟨i,h3,h2⟩ h'
    ·omega
   subst this
   exact ⟨i,h1,h2,fun i' hi'=>Classical.byContradiction fun hn=>h' ⟨i',hi',hn⟩⟩
structure Perm (mops ops:Array Oper) (σ τ:Nat→Nat):Prop where
 size:mops.size=ops.size
 lt:∀ i,i < ops.size→σ i < ops.size
 tlt:∀ i,i < ops.size→τ i < ops.size
 st:∀ i,i < ops.size→σ (τ i)=i
 ts:∀ i,i < ops.size→τ (σ i)=i
 op:∀ i o,ops[i]? = some o→∃ o',mops[σ i]? = some o'∧(∀ ρ,execOp ρ o'=execOp ρ o)∧o'.op=o.op∧o'.dst=o.dst∧∀ tmps,Region.wanted o' (yielded mops tmps)=Region.wanted o (yielded ops tmps)
theorem Perm.refl {ops:Array Oper}:Perm ops ops id id :=
 ⟨rfl,fun _ h=>h,fun _ h=>h,fun _ _=>rfl,fun _ _=>rfl,fun i o ho=>⟨o,ho,fun _=>rfl,rfl,rfl,fun _=>rfl⟩⟩
theorem wanted_ren {mops ops:Array Oper} {τ:Nat→Nat} {o o':Oper} (hg:o.guard=(o'.guard.map fun g=>(τ g.1,g.2))) (hr:∀ (g:Nat × Bool),o'.guard=some g→(mops[g.1]?).bind (·.dst)=(ops[τ g.1]?).bind (·.dst)) (tmps:Array Value) :
  Region.wanted o' (yielded mops tmps)=Region.wanted o (yielded ops tmps):=by
 unfold Region.wanted
 rw [hg]
 cases hog:o'.guard with
 | none=>rfl
 | some g =>
  obtain ⟨g,w⟩:=g
  have:yielded mops tmps g=yielded ops tmps (τ g):=by
   unfold yielded
   rw [hr _ hog]
  simp only [Option.map_some,this]
theorem Settled.bit_lt (hs:Settled ops bs):∀ (j:Nat) (i:Nat) (o:Oper),ops[j]? = some o→(numAt bs j).testBit i=true→i < j:=by
 intro j
 induction j using Nat.strongRecOn with
 | ind j ih =>
  intro i o ho hb
  obtain ⟨e,he,hbi,h⟩:=hs.bef j o i ho hb
  have hlt:=hs.edge j o ho e he hbi
  rcases h with rfl | h
  ·exact hlt
  ·have hj:j < ops.size:=(Array.getElem?_eq_some_iff.1 ho).1
   have:=ih e.on hlt i ops[e.on] (by simp [show e.on < ops.size by omega]) h
   omega
theorem lin_go {mops:Array Oper} (hedge:∀ j o,mops[j]? = some o→∀ e ∈ o.after,Region.binds .any e=true→e.on < j) :
  ∀ (fuel t:Nat) (listed:Array Bool) (U:List Nat),listed.size=mops.size→U.Nodup→U.length=fuel→(∀ i,i ∈ U↔i < mops.size∧listed.getD i false=false) →
   (Region.linearise.go .any mops fuel t listed []).Nodup∧(∀ i,i ∈ Region.linearise.go .any mops fuel t listed []↔i ∈ U) ∧
   ∀ pre j post o,Region.linearise.go .any mops fuel t listed []=pre++j :: post→mops[j]? = some o→∀ e ∈ o.after,Region.binds .any e=true→listed.getD e.on false=true∨e.on ∈ pre:=by
 intro fuel
 induction fuel with
 | zero =>
  intro t listed U hsz hnd hlen hU
  have hnil:U=[]:=List.eq_nil_of_length_eq_zero hlen
  subst hnil
  refine ⟨by simp [Region.linearise.go],by simp [Region.linearise.go],?_⟩
  intro pre j post o h
  have:([]:List Nat)=pre++j :: post:=h
  simp at this
 | succ fuel ih =>
  intro t listed U hsz hnd hlen hU
  have hex:∃ i,i < mops.size∧¬ listed.getD i false=true:=by
   cases hLL:U with
   | nil=>rw [hLL] at hlen; cases hlen
   | cons x l =>
    have:=(hU x).1 (by rw [hLL]; exact List.mem_cons_self ..)
    exact ⟨x,this.1,by rw [this.2]; simp⟩
  obtain ⟨i0,hi0,hu0,hall0⟩:=least_undone (D:=fun i=>listed.getD i false=true) mops.size hex
  have hr0':i0 ∈ Region.ready .any mops listed:=by
   refine mem_ready.2 ⟨?_,mops[i0],by simp [hi0],fun e he hb=>hall0 e.on (hedge i0 _ (by simp [hi0]) e he hb)⟩
   have:i0 < listed.size:=by omega
   simp only [Array.getD_eq_getD_getElem?] at hu0 ⊢
   simp [this] at hu0 ⊢
   exact hu0
  have hgo:Region.linearise.go .any mops (fuel+1) t listed []=(match (Region.ready .any mops listed)[t % (Region.ready .any mops listed).length]? with
   | some i=>Region.linearise.go .any mops fuel (t / (Region.ready .any mops listed).length) (listed.setIfInBounds i true) [i]
   | none=>[].reverse):=by
   simp only [Region.linearise.go]
   rfl
  rw [hgo]
  cases hi:(Region.ready .any mops listed)[t % (Region.ready .any mops listed).length]? with
  | none =>
   exfalso
   cases hr:Region.ready .any mops listed with
   | nil=>rw [hr] at hr0'; cases hr0'
   | cons x xs =>
    rw [hr] at hi
    have hlt:t % (x :: xs).length < (x :: xs).length:=Nat.mod_lt _ (by simp)
    simp at hi
    simp at hlt
    omega
  | some j =>
   simp only []
   rw [linearise_go_acc,List.reverse_singleton,List.singleton_append]
   have hjr:j ∈ Region.ready .any mops listed:=List.mem_of_getElem? hi
   obtain ⟨hj0,o,ho,hal⟩:=mem_ready.1 hjr
   have hjn:j < mops.size:=(Array.getElem?_eq_some_iff.1 ho).1
   have hjl:j < listed.size:=by omega
   have hj:listed.getD j false=false:=by
    simp only [Array.getD_eq_getD_getElem?] at hj0 ⊢
    simp [hjl] at hj0 ⊢
    exact hj0
   have hset:∀ i,(listed.setIfInBounds j true).getD i false=true↔i=j∨listed.getD i false=true:=by
    intro i
    by_cases e:i=j
    ·subst e
     simp only [Array.getD_eq_getD_getElem?]
     simp [hjl]
    ·rw [getD_set_ne false (Ne.symm e)]
     simp [e]
   have hjU:j ∈ U:=(hU j).2 ⟨hjn,hj⟩
   obtain ⟨k1,k2,k3⟩:=ih (t / (Region.ready .any mops listed).length) (listed.setIfInBounds j true) (U.erase j) (by simpa using hsz) (hnd.erase j) (by rw [List.length_erase_of_mem hjU]; omega) (by
    intro i
    rw [hnd.mem_erase_iff,hU i]
    constructor
    ·rintro ⟨h1,h2,h3⟩
     refine ⟨h2,?_⟩
     rw [getD_set_ne false (Ne.symm h1)]; exact h3
    ·rintro ⟨h1,h2⟩
     have hne:i≠j:=by
      rintro rfl
      have:=(hset i).2 (.inl rfl)
      rw [this] at h2; cases h2
     rw [getD_set_ne false (Ne.symm hne)] at h2
     exact ⟨hne,h1,h2⟩)
   refine ⟨List.nodup_cons.2 ⟨fun hm=>?_,k1⟩,fun i=>?_,?_⟩
   ·have:=(k2 j).1 hm
    rw [hnd.mem_erase_iff] at this
    exact this.1 rfl
   ·rw [List.mem_cons,k2 i,hnd.mem_erase_iff]
    constructor
    ·rintro (rfl | h)
     ·exact hjU
     ·exact h.2
    ·intro h
     by_cases e:i=j
     ·exact .inl e
     ·exact .inr ⟨e,h⟩
   ·intro pre j1 post o1 hL ho1 e he hb
    cases pre with
    | nil =>
     have h1:j=j1:=(List.cons.inj hL).1
     subst h1
     rw [ho] at ho1; cases ho1
     exact .inl (hal e he hb)
    | cons x pre =>
     obtain ⟨rfl,hL'⟩:=List.cons.inj hL
     rcases k3 pre j1 post o1 hL' ho1 e he hb with h | h
     ·rcases (hset e.on).1 h with h | h
      ·exact .inr (by rw [h]; exact List.mem_cons_self ..)
      ·exact .inl h
     ·exact .inr (List.mem_cons_of_mem _ h)
theorem lin_spec {mops:Array Oper} (hedge:∀ j o,mops[j]? = some o→∀ e ∈ o.after,Region.binds .any e=true→e.on < j) (t:Nat) :
  (Region.linearise .any mops t).Nodup∧(∀ i,i ∈ Region.linearise .any mops t↔i < mops.size) ∧
   ∀ pre j post o,Region.linearise .any mops t=pre++j :: post→mops[j]? = some o→∀ e ∈ o.after,Region.binds .any e=true→e.on ∈ pre:=by
 have hlf:∀ i,(Array.replicate mops.size false).getD i false=false:=by
  intro i
  simp only [Array.getD_eq_getD_getElem?,Array.getElem?_replicate]
  split <;> rfl
 obtain ⟨h1,h2,h3⟩:=lin_go hedge mops.size t (Array.replicate mops.size false) (List.range mops.size) (by simp) List.nodup_range (by simp) (by
  intro i; simp [hlf i])
 refine ⟨h1,fun i=>by rw [← List.mem_range]; exact h2 i,fun pre j post o hL ho e he hb=>(h3 pre j post o hL ho e he hb).resolve_left fun h=>?_⟩
 rw [hlf] at h; cases h
theorem sched (hS:SelfOK P S) (hs:Settled ops bs) (hR:Ran P S nt ops R) (hL:Looks P S ops bs R) (hr0:Rel E H0 (recAt R 0).st) (hn:(recAt R ops.size).st.next≤E.top) {b:Frame} {k:List Item}
  {mops:Array Oper} {σ τ:Nat→Nat} (hp:Perm mops ops σ τ) :
  ∀ (L:List Nat) (D:Nat→Prop),L.Nodup→(∀ i,i ∈ L↔i < ops.size∧¬ D i) →
   (∀ pre j post o,L=pre++j :: post→ops[τ j]? = some o→∀ e ∈ o.after,Region.binds .any e=true→D (σ e.on)∨σ e.on ∈ pre) →
   (∀ j,j < ops.size→D (σ j)→∀ i,(numAt bs j).testBit i=true→D (σ i)) →
   ∀ {p q:Nat} {a:Act} {w:World} {E':Env} {X:St} {β ν:Nat→Nat} {ζ:Nat→Value},Inv ops R nt E H0 (fun _=>False) none (fun i=>i < ops.size∧D (σ i)) (fun i=>q≤i) p q a w.heap E' X β ν ζ →
   ∃ E'' a' w',Step E E'' H0 (World.heap w') (recAt R 0).st (recAt R ops.size).st∧ConcT E'' nt (recAt R ops.size).t a'.tmps∧a'.defers=a.defers∧(w'.os=w.os∧w'.output=w.output) ∧
    ∀ cs,Steps P (lone (b.atR a (.inRegion mops L :: k)) cs w) (lone (b.atR a' k) cs w'):=by
 intro L
 induction L with
 | nil =>
  intro D hnd hLD hord hdown p q a w E' X β ν ζ h
  have hall:∀ i,i < ops.size→i < ops.size∧D (σ i):=by
   intro i hi
   refine ⟨hi,Classical.byContradiction fun hc=>?_⟩
   have:=(hLD (σ i)).2 ⟨hp.lt i hi,hc⟩
   cases this
  have hq:q=ops.size:=by
   rcases h.gap.atq with h1 | h1
   ·exact h1
   ·have hlt:q < ops.size:=by obtain ⟨o,ho,_⟩:=h1; exact (Array.getElem?_eq_some_iff.1 ho).1
    exact absurd (hall q hlt) (h.gap.after q (Nat.le_refl _) h1)
  subst hq
  have hX:∀ r,X.get r=(recAt R ops.size).st.get r∧X.live.get r=(recAt R ops.size).st.live.get r:=fun r =>
   h.rest r fun i h1 h2 ha hno=>absurd ⟨hall i h2,by omega⟩ hno
  refine ⟨E',a,w,h.st.ext (fun r=>(hX r).1.symm) (fun g=>(hX g).2.symm) (by rw [h.next]; exact Nat.le_refl _),⟨h.sz,fun x=>?_⟩,rfl,⟨rfl,rfl⟩,fun cs=>?_⟩
  ·by_cases hex:∃ (i:Nat) (oi:Oper),ops[i]? = some oi∧oi.dst=some x
   ·obtain ⟨i,oi,hoi,hdi⟩:=hex
    have hin:i < ops.size:=(Array.getElem?_eq_some_iff.1 hoi).1
    have hval:tget (recAt R ops.size).t x=(recAt R i).v:=ran_slot hR hoi hdi ops.size hin (Nat.le_refl _) fun i' o' h1 h2 h3 h4=>by
     have:=hs.dst hoi h3 hdi h4; omega
    rw [hval]
    exact h.slotV x i oi (hall i hin) hoi hdi fun ⟨_,hq⟩=>by omega
   ·have hno:∀ (i:Nat) (oi:Oper),ops[i]? = some oi→oi.dst≠some x:=fun i oi h1 h2=>hex ⟨i,oi,h1,h2⟩
    rw [ran_slot0 hR ops.size (Nat.le_refl _) fun i o _=>hno i o]
    exact h.slot0 x (fun h=>h) fun i o _=>hno i o
  ·exact Steps.one stepR_region_end
 | cons j' L ih =>
  intro D hnd hLD hord hdown p q a w E' X β ν ζ h
  obtain ⟨hj'n,hj'D⟩:=(hLD j').1 (List.mem_cons_self ..)
  have hjn:τ j' < ops.size:=hp.tlt j' hj'n
  have hsj:σ (τ j')=j':=hp.st j' hj'n
  have ho:ops[τ j']? = some ops[τ j']:=by simp [hjn]
  generalize ops[τ j']=o at ho
  obtain ⟨o',hmo,hexe,hop,hdst,hwy⟩:=hp.op _ _ ho
  rw [hsj] at hmo
  have hdn:∀ j,(j < ops.size∧D (σ j))→∀ i,(numAt bs j).testBit i=true→i < ops.size∧D (σ i):=fun j hj i hb=>by
   have:=hs.bit_lt j i ops[j] (by simp [hj.1]) hb
   exact ⟨by omega,hdown j hj.1 hj.2 i hb⟩
  have hrdy:∀ i,(numAt bs (τ j')).testBit i=true→i < ops.size∧D (σ i):=by
   intro i hb
   have hlt:=hs.bit_lt _ i o ho hb
   refine ⟨by omega,?_⟩
   obtain ⟨e,he,hbi,h1⟩:=hs.bef _ o i ho hb
   have hD:D (σ e.on):=(hord [] j' L o rfl ho e he hbi).resolve_right (by simp)
   rcases h1 with rfl | h1
   ·exact hD
   ·have:=hs.edge _ o ho e he hbi
    exact hdown e.on (by omega) hD i h1
  obtain ⟨p',q',a',w',E'',X',β',ν',ζ',hI,hdf,hos,-,hst⟩:=h.goOn hS hs hR hL hr0 hn (b:=b) (k:=k) hdn ho (fun hd=>hj'D (by have:=hd.2; rwa [hsj] at this)) hrdy (fun _ _ h=>h) hmo hexe hop hdst (hwy _)
  have hfun:(fun i=>i=τ j'∨(i < ops.size∧D (σ i)))=fun i=>i < ops.size∧(σ i=j'∨D (σ i)):=funext fun i=>propext ⟨fun hh=>by
   rcases hh with rfl | hh
   ·exact ⟨hjn,.inl hsj⟩
   ·exact ⟨hh.1,.inr hh.2⟩,fun hh=>by
   rcases hh with ⟨h1,h2 | h2⟩
   ·exact .inl (by rw [← h2,hp.ts i h1])
   ·exact .inr ⟨h1,h2⟩⟩
  rw [hfun] at hI
  have hnd':=List.nodup_cons.1 hnd
  obtain ⟨E3,a3,w3,k1,k2,k3,kos,k4⟩:=ih (fun i=>i=j'∨D i) hnd'.2 (by
   intro i
   constructor
   ·intro hi
    have:=(hLD i).1 (List.mem_cons_of_mem _ hi)
    refine ⟨this.1,?_⟩
    rintro (rfl | hd)
    ·exact hnd'.1 hi
    ·exact this.2 hd
   ·rintro ⟨h1,h2⟩
    have:=(hLD i).2 ⟨h1,fun hd=>h2 (.inr hd)⟩
    rcases List.mem_cons.1 this with rfl | this
    ·exact absurd (.inl rfl) h2
    ·exact this) (by
   intro pre j post o1 hL1 ho1 e he hb
   rcases hord (j' :: pre) j post o1 (by rw [hL1]; rfl) ho1 e he hb with h1 | h1
   ·exact .inl (.inr h1)
   ·rcases List.mem_cons.1 h1 with h1 | h1
    ·exact .inl (.inl h1)
    ·exact .inr h1) (by
   intro j hj hd i hb
   rcases hd with hd | hd
   ·right
    have:j=τ j':=by rw [← hd,hp.ts j hj]
    subst this
    exact (hrdy i hb).2
   ·exact .inr (hdown j hj hd i hb)) hI
  exact ⟨E3,a3,w3,k1,k2,by rw [k3,hdf],⟨kos.1.trans hos.1,kos.2.trans hos.2⟩,fun cs=>(hst cs _).trans (k4 cs)⟩
theorem recheck_spec {fl:List (Nat × Nat)} (hsz:R.length=ops.size+1) (h:fl.all (recheck P S ops R)=true) {j p:Nat} {o:Oper} (ho:ops[j]? = some o) (hm:(j,p) ∈ fl) (hp:p≤ops.size) (hw:(recAt R j).w=true) :
  ∃ u,evOp P S (recAt R j).t (recAt R p).st o=some ((recAt R j).v,u):=by
 have h1:=List.all_eq_true.1 h _ hm
 have hjn:j < ops.size:=(Array.getElem?_eq_some_iff.1 ho).1
 have at':∀ i,i≤ops.size→R[i]? = some (recAt R i):=by
  intro i hi
  have:i < R.length:=by omega
  simp [recAt,this]
 unfold recheck at h1
 rw [at' j (by omega),at' p hp] at h1
 simp only [ho,recheckO,hw,cond_true] at h1
 unfold sameR at h1
 split at h1
 ·rename_i u st he
  rcases Bool.or_eq_true _ _ ▸ h1 with h1 | h1
  ·rw [he,avEq_eq _ _ _ h1]; exact ⟨_,rfl⟩
  ·have h1:@decide _ (Classical.propDecidable _)=true:=h1
   rw [he,@of_decide_eq_true _ (Classical.propDecidable _) h1]; exact ⟨_,rfl⟩
 ·cases h1
theorem drawR_lin {n0:Nat} {b:Frame} {st:St} {w:World} {x:Ctx} (hS:SelfOK x.P x.S) {id:Nat} {mops ops:Array Oper} {σ τ:Nat→Nat} (hper:Perm mops ops σ τ)
  (hedge:∀ j o,mops[j]? = some o→∀ e ∈ o.after,Region.binds .any e=true→e.on < j)
  {t:Tr AV} {a:Act} {k:List Item} (hr:Rel E w.heap st) (ht:ConcT E x.nt t a.tmps) (hm:Marks n0 b.defers E w.heap st a.defers)
  (hlin:∀ pre j post o,Region.linearise .any mops (w.tape w.drawn (.order b.fn id))=pre++j :: post→ops[τ j]? = some o→∀ e ∈ o.after,Region.binds .any e=true→σ e.on ∈ pre)
  {fl:List (Nat × Nat)} (hp:plan ops=some fl) (hl:(drawR x.P x.S ops fl (recs x.P x.S x.nt ops ops.toList t st)).lim E.top):Arr x.P n0 E x.nt b w st (fun cs=>lone (b.atR a (.code (.region id mops true) :: k)) cs w) k (drawR x.P x.S ops fl (recs x.P x.S x.nt ops ops.toList t st)):=by
 unfold plan at hp
 cases hb:befs ops.toList [] with
 | none=>rw [hb] at hp; cases hp
 | some bs =>
  rw [hb] at hp
  simp only at hp
  cases hd:drawOkF ops bs [] ops.toList bs with
  | false=>rw [hd] at hp; cases hp
  | true =>
   rw [hd] at hp
   simp only [cond_true,Option.some.injEq] at hp
   generalize hks:ops.toList.map (fun o=>kind o.op)=ks at hp
   have hks':∀ (i:Nat) (o:Oper),ops[i]? = some o→ks[i]? = some (kind o.op):=by
    intro i o ho
    rw [← hks,List.getElem?_map,Array.getElem?_toList,ho]; rfl
   have hksr:∀ (i m:Nat),ks[i]? = some m→∃ o,ops[i]? = some o∧kind o.op=m:=by
    intro i m h
    rw [← hks,List.getElem?_map,Array.getElem?_toList] at h
    cases ho:ops[i]? with
    | none=>rw [ho] at h; cases h
    | some o=>rw [ho] at h; exact ⟨o,rfl,by simpa using h⟩
   have hfl:=hp
   unfold drawR at hl ⊢
   cases hrc:recs x.P x.S x.nt ops ops.toList t st with
   | none=>trivial
   | some R =>
    rw [hrc] at hl
    simp only at hl ⊢
    cases hall:fl.all (recheck x.P x.S ops R) with
    | false=>trivial
    | true =>
     rw [hall] at hl
     simp only [cond_true] at hl ⊢
     obtain ⟨e1,e2,e3,e4⟩:=recs_spec hrc
     have hsz:R.length=ops.size+1:=by simpa using e1
     rw [lastOf_spec hsz] at hl ⊢
     have hn:(recAt R ops.size).st.next≤E.top:=hl
     have hs:=settled hb hd
     have hR:Ran x.P x.S x.nt ops R:=fun i o ho=>e4 i o (by rw [Array.getElem?_toList]; exact ho)
     have hL:Looks x.P x.S ops bs R:=by
      intro j p o ho hk hw hp
      have hpn:p≤ops.size:=by
       rcases hp with rfl | ⟨kk,rfl,o',h1,_⟩
       ·omega
       ·have:=(Array.getElem?_eq_some_iff.1 h1).1; omega
      cases hpin:pinned ks bs j p with
      | true =>
       unfold pinned at hpin
       simp only [Bool.or_eq_true,Bool.and_eq_true] at hpin
       rcases hpin with h1 | h1 | ⟨h1,h2⟩
       ·exact .inl h1
       ·obtain ⟨i,k1,k2,k3⟩:=anyK_spec h1
        obtain ⟨o',k4,k5⟩:=hksr i 3 k1
        exact .inr (.inl ⟨i,⟨o',k4,k5⟩,by omega,by simpa using k3⟩)
       ·refine .inr (.inr (.inl ⟨by simpa [Nat.ble_eq] using h1,fun i o' k1 k2 k3=>?_⟩))
        exact calm_spec h2 i _ (hks' i o' k3) (by omega) (by omega)
      | false =>
       refine .inr (.inr (.inr (recheck_spec hsz hall ho ?_ hpn hw)))
       rw [← hfl]
       have hmem:p ∈ (0 :: starts ks 0):=by
        rcases hp with rfl | ⟨kk,rfl,o',h1,h2⟩
        ·simp
        ·have hk3:ks[kk]? = some 3:=by rw [hks' kk o' h1,h2]
         have:=starts_mem (k:=0) hk3
         rw [Nat.zero_add] at this
         exact List.mem_cons_of_mem _ this
       have:=floatsOf_mem (ks:=ks) (bs:=bs) (ps:=0 :: starts ks 0) (l:=ks) (k:=0) (j:=j) (p:=p) (by rw [hks' j o ho,hk]) hmem (by simpa using hpin)
       simpa using this
     have hr0:Rel E w.heap (recAt R 0).st:=by rw [e3]; exact hr
     obtain ⟨q,n1,n2,n3,n4⟩:=next_K ops ops.size 0 (by omega)
     obtain ⟨g1,g2⟩:=ran_gap hS.up hR q n1 n2 n3
     let X:St:=⟨(recAt R 0).st.rows,(recAt R 0).st.live,(recAt R q).st.next⟩
     have hI:Inv ops R x.nt E w.heap (fun _=>False) none (fun i=>i < ops.size∧False) (fun i=>q≤i) 0 q a w.heap E X (fun _=>0) (fun _=>0) (fun _=>undef):=by
      refine ⟨(Step.refl hr0).ext (fun _=>rfl) (fun _=>rfl) (ran_mono hS.up hR n1 n2),ht.1,fun x i o hd=>hd.2.elim,fun x i o hd=>hd.2.elim,fun y _ _=>?_,⟨n1,n2,fun i o h=>by omega,n3,n4,fun i _ _ hd=>hd.2,.inl rfl⟩,rfl,?_,?_,?_,?_,fun i hd=>hd.2.elim,fun i i' hd=>hd.2.elim,fun b ob hb=>by cases hb⟩
      ·rw [e2]; exact ht.2 y
      ·intro r h; exact ⟨hr0.freshRow r h,hr0.freshG r h⟩
      ·intro g al hg y hy; exact hr0.liveLt g al y hg hy
      ·intro i h1 h2 ha _
       have hge:(recAt R 0).st.next≤rowAt R i:=ran_mono hS.up hR h1 (Nat.le_of_lt ha.lt)
       have hlt:=row_lt hS.up hR ha h2 n2
       have hq:=ran_mono hS.up hR n2 (Nat.le_refl _)
       exact ⟨hr0.freshRow _ hge,hr0.freshG _ hge,hr0.fresh _ hge (by omega)⟩
      ·intro r h
       have:=g1 r fun i h1 h2 ha=>h i h1 h2 ha (fun ⟨h3,_⟩=>h3.2)
       exact ⟨this.1.symm,this.2.symm⟩
     obtain ⟨l1,l2,l3⟩:=lin_spec hedge (w.tape w.drawn (.order b.fn id))
     obtain ⟨E'',a',w',k1,k2,k3,kos,k4⟩:=sched (b:=b) (k:=k) hS hs hR hL hr0 hn hper (Region.linearise .any mops (w.tape w.drawn (.order b.fn id))) (fun _=>False) l1 (fun i=>by rw [l2,hper.size]; simp) (by
      intro pre j post o hL1 ho e he hbi
      right
      exact hlin pre j post o hL1 ho e he hbi) (fun j _ hd=>hd.elim) (w:={ w with drawn:=w.drawn+1 }) hI
     rw [e3] at k1
     refine ⟨E'',a',w',⟨k1,kos.1,kos.2⟩,k2,by rw [k3]; exact hm.step k1,fun cs=>?_⟩
     refine (Steps.one stepR_region_draw).trans ?_
     have hsch:Region.schedule (x.P.follows .mixedOrders) mops (w.tape w.drawn (.order b.fn id))=Region.linearise .any mops (w.tape w.drawn (.order b.fn id)):=by
      simp only [Region.schedule,hS.mixed,Bool.true_or,if_true]
     rw [hsch]
     exact k4 cs
theorem drawR_perm {n0:Nat} {b:Frame} {st:St} {w:World} {x:Ctx} (hS:SelfOK x.P x.S) {id:Nat} {mops ops:Array Oper} {σ τ:Nat→Nat} (hper:Perm mops ops σ τ)
  (hedge:∀ j o,mops[j]? = some o→∀ e ∈ o.after,Region.binds .any e=true→e.on < j)
  (hord:∀ j o o',mops[j]? = some o'→ops[τ j]? = some o→∀ e ∈ o.after,Region.binds .any e=true→∃ e' ∈ o'.after,Region.binds .any e'=true∧e.on=τ e'.on)
  {t:Tr AV} {a:Act} {k:List Item} (hr:Rel E w.heap st) (ht:ConcT E x.nt t a.tmps) (hm:Marks n0 b.defers E w.heap st a.defers)
  {fl:List (Nat × Nat)} (hp:plan ops=some fl) (hl:(drawR x.P x.S ops fl (recs x.P x.S x.nt ops ops.toList t st)).lim E.top):Arr x.P n0 E x.nt b w st (fun cs=>lone (b.atR a (.code (.region id mops true) :: k)) cs w) k (drawR x.P x.S ops fl (recs x.P x.S x.nt ops ops.toList t st)):=by
 obtain ⟨l1,l2,l3⟩:=lin_spec hedge (w.tape w.drawn (.order b.fn id))
 refine drawR_lin hS hper hedge hr ht hm (fun pre j post o hL1 ho e he hbi=>?_) hp hl
 have hjm:j < mops.size:=(l2 j).1 (by rw [hL1]; simp)
 obtain ⟨e',he',hbi',h1⟩:=hord j o mops[j] (by simp [hjm]) ho e he hbi
 have:=l3 pre j post _ hL1 (by simp [hjm]) e' he' hbi'
 rw [h1,hper.st _ (by rw [← hper.size]; exact (l2 _).1 (by rw [hL1]; exact List.mem_append_left _ this))]
 exact this
theorem edges_of {ops:Array Oper} {bs:List Nat} (hb:befs ops.toList []=some bs):∀ j o,ops[j]? = some o→∀ e ∈ o.after,Region.binds .any e=true→e.on < j:=by
 obtain ⟨_,_,h3⟩:=befs_spec hb
 intro j o ho e he hbi
 simpa using (h3 j o (by rw [Array.getElem?_toList]; exact ho)).1 e he hbi
theorem drawR_spec {n0:Nat} {b:Frame} {st:St} {w:World} {x:Ctx} (hS:SelfOK x.P x.S) {id:Nat} {ops:Array Oper} {t:Tr AV} {a:Act} {k:List Item} (hr:Rel E w.heap st) (ht:ConcT E x.nt t a.tmps) (hm:Marks n0 b.defers E w.heap st a.defers)
  {fl:List (Nat × Nat)} (hp:plan ops=some fl) (hl:(drawP x.P x.S x.nt ops t st (some fl)).lim E.top):Arr x.P n0 E x.nt b w st (fun cs=>lone (b.atR a (.code (.region id ops true) :: k)) cs w) k (drawP x.P x.S x.nt ops t st (some fl)):=by
 have hb:∃ bs,befs ops.toList []=some bs:=by
  unfold plan at hp
  cases hb:befs ops.toList [] with
  | none=>rw [hb] at hp; cases hp
  | some bs=>exact ⟨bs,rfl⟩
 obtain ⟨bs,hb⟩:=hb
 exact drawR_perm (σ:=fun i=>i) (τ:=fun i=>i) hS .refl (edges_of hb) (fun j o o' h1 h2 e he hbi=>by
  rw [h1] at h2; cases h2
  exact ⟨e,he,hbi,rfl⟩) hr ht hm hp hl
theorem reorder_spec {ops:Array Oper} {τ:List Nat}:∀ {σ:List Nat} {l:List Oper},reorder ops τ σ=some l→l.length=σ.length∧∀ i o,l[i]? = some o→∃ o',ops[numAt σ i]? = some o'∧o=renO τ o'
 | [],l,h=>by cases h; exact ⟨rfl,fun i o h=>by simp at h⟩
 | s :: σ,l,h=>by
  unfold reorder at h
  cases ho:ops[s]? with
  | none=>rw [ho] at h; cases h
  | some o' =>
   cases hr:reorder ops τ σ with
   | none=>rw [ho,hr] at h; cases h
   | some r =>
    rw [ho,hr] at h
    cases h
    obtain ⟨h1,h2⟩:=reorder_spec hr
    refine ⟨by simp [h1],fun i o hi=>?_⟩
    cases i with
    | zero =>
     have:renO τ o'=o:=by simpa using hi
     exact ⟨o',by simpa [numAt] using ho,this.symm⟩
    | succ i =>
     obtain ⟨o2,k1,k2⟩:=h2 i o (by simpa using hi)
     exact ⟨o2,by simpa [numAt] using k1,k2⟩
theorem permOk_spec {n:Nat} {σ τ:List Nat}:∀ {k:Nat},permOk n σ τ k=true→∀ i,i < k→numAt σ i < n∧numAt τ i < n∧numAt σ (numAt τ i)=i∧numAt τ (numAt σ i)=i
 | 0,_,i,hi=>by omega
 | k+1,h,i,hi=>by
  unfold permOk at h
  simp only [Bool.and_eq_true,Nat.blt_eq,Nat.beq_eq] at h
  by_cases e:i=k
  ·subst e; exact ⟨h.1.1,h.1.2.1,h.1.2.2.1,h.1.2.2.2⟩
  ·exact permOk_spec h.2 i (by omega)
theorem guardsIn_spec {n:Nat}:∀ {l:List Oper},guardsIn n l=true→∀ o ∈ l,∀ (g:Nat × Bool),o.guard=some g→g.1 < n
 | [],_,o,ho=>by cases ho
 | x :: l,h,o,ho=>by
  unfold guardsIn at h
  simp only [Bool.and_eq_true] at h
  rcases List.mem_cons.1 ho with rfl | ho
  ·intro g hg
   have:=h.1
   rw [hg] at this
   simpa [guardIn] using this
  ·exact guardsIn_spec h.2 o ho
theorem renG_eq (τ:List Nat) (g:Option (Nat × Bool)):renG τ g=g.map fun g=>(numAt τ g.1,g.2):=by cases g <;> rfl
theorem planS1_spec {ops:Array Oper} {m:PlanS} {bs σ:List Nat} (hb:befs ops.toList []=some bs) (h:planS1 ops σ=some m):plan m.pops=some m.fl∧Perm ops m.pops (numAt m.σ) (numAt m.τ) ∧
  (∀ j o,ops[j]? = some o→∀ e ∈ o.after,Region.binds .any e=true→e.on < j) ∧
  ∀ j o o',ops[j]? = some o'→m.pops[numAt m.τ j]? = some o→∀ e ∈ o.after,Region.binds .any e=true→∃ e' ∈ o'.after,Region.binds .any e'=true∧e.on=numAt m.τ e'.on:=by
 simp only [planS1,planS2] at h
 generalize (List.range ops.size).map (fun i=>idxIn i σ 0)=τ at h
 unfold planS3 at h
 cases hre:reorder ops τ σ with
 | none=>rw [hre] at h; cases h
 | some l =>
  rw [hre] at h
  simp only at h
  unfold planS4 at h
  cases hpl:plan l.toArray with
  | none=>rw [hpl] at h; cases h
  | some fl =>
   rw [hpl] at h
   simp only at h
   cases hc:(Nat.beq l.toArray.size ops.size && (permOk ops.size σ τ ops.size && guardsIn ops.size ops.toList)) with
   | false=>rw [hc] at h; cases h
   | true =>
    rw [hc] at h
    cases h
    simp only [Bool.and_eq_true,Nat.beq_eq] at hc
    obtain ⟨hsz,hpo,hgi⟩:=hc
    have hP:=permOk_spec hpo
    obtain ⟨r1,r2⟩:=reorder_spec hre
    have hl:∀ (i:Nat) (o:Oper),l.toArray[i]? = some o→∃ o',ops[numAt σ i]? = some o'∧o=renO τ o':=fun i o hi=>r2 i o (by simpa using hi)
    have hlt:∀ (i:Nat) (o:Oper),l.toArray[i]? = some o→i < ops.size:=fun i o hi=>by
     have:=(Array.getElem?_eq_some_iff.1 hi).1; omega
    refine ⟨hpl,⟨hsz.symm,fun i hi=>?_,fun i hi=>?_,fun i hi=>?_,fun i hi=>?_,fun i o ho=>?_⟩,edges_of hb,fun j o o' ho' ho e he hbi=>?_⟩
    ·rw [hsz] at hi ⊢; exact (hP i hi).1
    ·rw [hsz] at hi ⊢; exact (hP i hi).2.1
    ·rw [hsz] at hi; exact (hP i hi).2.2.1
    ·rw [hsz] at hi; exact (hP i hi).2.2.2
    ·obtain ⟨o',h1,rfl⟩:=hl i o ho
     refine ⟨o',h1,fun ρ=>rfl,rfl,rfl,wanted_ren (renG_eq τ o'.guard) fun g hg=>?_⟩
     have hgn:=guardsIn_spec hgi o' (Array.mem_toList_iff.2 (Array.mem_of_getElem? h1)) g hg
     have hτ:=(hP g.1 hgn).2.1
     obtain ⟨o2,h2⟩:∃ o2,l.toArray[numAt τ g.1]? = some o2:=⟨_,Array.getElem?_eq_getElem (by omega)⟩
     obtain ⟨o3,h3,rfl⟩:=hl _ _ h2
     rw [(hP g.1 hgn).2.2.1] at h3
     rw [h2,h3]; rfl
    ·obtain ⟨o2,h2,rfl⟩:=hl _ _ ho
     have hj:j < ops.size:=(Array.getElem?_eq_some_iff.1 ho').1
     rw [(hP j hj).2.2.1,ho'] at h2
     cases h2
     have he':e ∈ (o'.after.toList.map (renE τ)).toArray:=he
     rw [List.mem_toArray,List.mem_map] at he'
     obtain ⟨e',h4,rfl⟩:=he'
     exact ⟨e',Array.mem_toList_iff.1 h4,hbi,rfl⟩
theorem planS_spec {ops:Array Oper} {m:PlanS} (h:planS ops=some m):plan m.pops=some m.fl∧Perm ops m.pops (numAt m.σ) (numAt m.τ) ∧
  (∀ j o,ops[j]? = some o→∀ e ∈ o.after,Region.binds .any e=true→e.on < j) ∧
  ∀ j o o',ops[j]? = some o'→m.pops[numAt m.τ j]? = some o→∀ e ∈ o.after,Region.binds .any e=true→∃ e' ∈ o'.after,Region.binds .any e'=true∧e.on=numAt m.τ e'.on:=by
 unfold planS at h
 cases hb:befs ops.toList [] with
 | none=>rw [hb] at h; cases h
 | some bs=>rw [hb] at h; exact planS1_spec hb h
theorem planSW_spec {ops:Array Oper} {x y:Nat} {m:PlanS} (h:planSW ops x y=some m):plan m.pops=some m.fl∧Perm ops m.pops (numAt m.σ) (numAt m.τ) ∧
  (∀ j o,ops[j]? = some o→∀ e ∈ o.after,Region.binds .any e=true→e.on < j) ∧
  ∀ j o o',ops[j]? = some o'→m.pops[numAt m.τ j]? = some o→∀ e ∈ o.after,Region.binds .any e=true→∃ e' ∈ o'.after,Region.binds .any e'=true∧e.on=numAt m.τ e'.on:=by
 unfold planSW at h
 cases hb:befs ops.toList [] with
 | none=>rw [hb] at h; cases h
 | some bs=>rw [hb] at h; exact planS1_spec hb h
theorem drawS_spec {n0:Nat} {b:Frame} {st:St} {w:World} {x:Ctx} (hS:SelfOK x.P x.S) {id:Nat} {ops:Array Oper} {t:Tr AV} {a:Act} {k:List Item} (hr:Rel E w.heap st) (ht:ConcT E x.nt t a.tmps) (hm:Marks n0 b.defers E w.heap st a.defers)
  (hl:(drawS x.P x.S x.nt t st (planS ops)).lim E.top):Arr x.P n0 E x.nt b w st (fun cs=>lone (b.atR a (.code (.region id ops true) :: k)) cs w) k (drawS x.P x.S x.nt t st (planS ops)):=by
 cases hp:planS ops with
 | none=>trivial
 | some m =>
  rw [hp] at hl
  obtain ⟨h1,h2,h3,h4⟩:=planS_spec hp
  exact drawR_perm hS h2 h3 h4 hr ht hm h1 hl
end
end
end Go.Ev
