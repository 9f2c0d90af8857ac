/-
  A map that is made and filled in a region that draws its order: from the first operation to the last; any region that draws.
-/
import Derived.Test.YtbemeikjepjhoaaGreatDoorS20
namespace Go.Ev
noncomputable section
theorem only_one {k:Nat}:∀ {l:List Nat},l.Nodup→(∀ x,x ∈ l↔x=k)→l=[k]
 | [],_,h=>by have:=(h k).2 rfl; cases this
 | x :: l,hn,h=>by
  have hx:x=k:=(h x).1 (List.mem_cons_self ..)
  subst hx
  cases l with
  | nil=>rfl
  | cons y l =>
   have hy:y=x:=(h y).1 (List.mem_cons_of_mem _ (List.mem_cons_self ..))
   subst hy
   rw [List.nodup_cons] at hn
   exact absurd (List.mem_cons_self ..) hn.1
section
variable {P : Program} {S : Self} {nt : Nat} {ops aops : Array Oper} {bs bsF : List Nat} {R : List Rec} {E : Env} {H0 : Array Obj} {i0 : Nat} {d : Tmp} {h : Nat}
theorem bitF_lt (hM:MapReg ops aops bs bsF i0 d h):∀ (j:Nat) (o:Oper),ops[j]? = some o→∀ i,(numAt bsF j).testBit i=true→i < j:=by
 intro j
 induction j using Nat.strongRecOn with
 | _ j ih =>
  intro o ho i hi
  obtain ⟨e,he,hb,h1⟩:=hM.befF j o i ho hi
  have hlt:=hM.edgeF j o ho e he hb
  rcases h1 with rfl | h1
  ·exact hlt
  ·have hjn:j < ops.size:=(Array.getElem?_eq_some_iff.1 ho).1
   have:=ih e.on hlt ops[e.on] (by simp [show e.on < ops.size by omega]) i h1
   omega
theorem tail_list (hM:MapReg ops aops bs bsF i0 d h):∀ (fuel t:Nat) (listed:Array Bool) (k:Nat),listed.size=ops.size→h≤k→k+fuel=ops.size→(∀ i,listed.getD i false=true↔i < k) →
  Region.linearise.go .any ops fuel t listed []=List.range' k fuel:=by
 intro fuel
 induction fuel with
 | zero=>intro t listed k hsz hk hf hl; rfl
 | succ fuel ih =>
  intro t listed k hsz hk hf hl
  have hkn:k < ops.size:=by omega
  have hok:ops[k]? = some ops[k]:=by simp [hkn]
  have hready:Region.ready .any ops listed=[k]:=by
   refine only_one ((List.nodup_range).filter _) fun i=>?_
   rw [mem_ready]
   constructor
   ·rintro ⟨h0,o,ho,hal⟩
    have hin:i < ops.size:=(Array.getElem?_eq_some_iff.1 ho).1
    have hnl:¬ i < k:=by
     intro hik
     have:=(hl i).2 hik
     have hi':i < listed.size:=by omega
     simp only [Array.getD_eq_getD_getElem?] at this h0
     simp [hi'] at this h0
     rw [h0] at this; cases this
    rcases Nat.lt_or_ge k i with hlt | hge
    ·exfalso
     have hb:=hM.tail i (by omega) hin k hlt
     obtain ⟨e,he,hbd,h1⟩:=hM.befF i o k ho hb
     have hli:=(hl e.on).1 (hal e he hbd)
     rcases h1 with h1 | h1
     ·omega
     ·have hen:=hM.edgeF i o ho e he hbd
      have:=bitF_lt hM e.on ops[e.on] (by simp [show e.on < ops.size by omega]) k h1
      omega
    ·omega
   ·rintro rfl
    refine ⟨?_,ops[i],hok,fun e he hb=>(hl e.on).2 (hM.edgeF i _ hok e he hb)⟩
    have hnl:¬ listed.getD i false=true:=fun hh=>Nat.lt_irrefl _ ((hl i).1 hh)
    have hi':i < listed.size:=by omega
    simp only [Array.getD_eq_getD_getElem?] at hnl ⊢
    simp [hi'] at hnl ⊢
    exact hnl
  simp only [Region.linearise.go]
  change (match (Region.ready .any ops listed)[t % (Region.ready .any ops listed).length]? with
   | some i=>Region.linearise.go .any ops fuel (t / (Region.ready .any ops listed).length) (listed.setIfInBounds i true) [i]
   | none=>[].reverse)=_
  rw [hready]
  have hz:t % [k].length=0:=by simp; omega
  rw [hz]
  simp only [List.getElem?_cons_zero]
  rw [linearise_go_acc,List.reverse_singleton,List.singleton_append,List.range'_succ]
  congr 1
  refine ih _ _ (k+1) (by simpa using hsz) (by omega) (by omega) fun i=>?_
  by_cases e:i=k
  ·subst e
   have hi':i < listed.size:=by omega
   simp only [Array.getD_eq_getD_getElem?]
   simp [hi']
  ·rw [getD_set_ne false (Ne.symm e),hl]
   omega
theorem schedM (hS:SelfOK P S) (hM:MapReg ops aops bs bsF i0 d h) (hR:Ran P S nt aops R) (hL:Looks P S aops bs R) (hr0:Rel E H0 (recAt R 0).st) (hn:(recAt R aops.size).st.next≤E.top) (hdn:d < nt)
  (hkf:∀ i o q,i < h→ops[i]? = some o→insOf d o=some q→keyFits P q.1 (KV R i).1=true) (hkd:∀ i i',IsIns ops d h i→IsIns ops d h i'→i≠i'→eqS (KV R i).1 (KV R i').1=some false) {b:Frame} {k:List Item} :
  ∀ (n t:Nat) (listed:Array Bool) (L:List Nat),listed.size=ops.size→L.Nodup→L.length=n→(∀ i,i ∈ L↔i < h∧listed.getD i false=false)→(∀ i,listed.getD i false=true→i < h) →
   (∀ j,listed.getD j false=true→∀ i,(numAt bs j).testBit i=true→listed.getD i false=true)→(∀ j,listed.getD j false=true→∀ i,(numAt bsF j).testBit i=true→listed.getD i false=true) →
   ∀ {p q:Nat} {a:Act} {w:World} {E':Env} {X:St} {β ν:Nat→Nat} {ζ:Nat→Value} {xb:Option (Nat × Obj)},Inv aops R nt E H0 (fun x=>x=d) xb (fun i=>listed.getD i false=true) (fun i=>q≤i) p q a w.heap E' X β ν ζ →
   (¬ listed.getD i0 false=true→xb=none)→(listed.getD i0 false=true→MapI ops d h R (fun i=>listed.getD i false=true) E' a xb) →
   ∃ p' q' a' w' E'' X' β' ν' ζ' xb' t' listed',Inv aops R nt E H0 (fun x=>x=d) xb' (fun i=>i < h) (fun i=>q'≤i) p' q' a' (World.heap w') E'' X' β' ν' ζ'∧MapI ops d h R (fun i=>i < h) E'' a' xb' ∧
    a'.defers=a.defers∧(w'.os=w.os∧w'.output=w.output)∧Array.size listed'=ops.size∧(∀ i,listed'.getD i false=true↔i < h) ∧
    ∀ cs,Steps P (lone (b.atR a (.inRegion ops (Region.linearise.go .any ops (n+(ops.size - h)) t listed []) :: k)) cs w) (lone (b.atR a' (.inRegion ops (Region.linearise.go .any ops (ops.size - h) t' listed' []) :: k)) cs w'):=by
 intro n
 induction n with
 | zero =>
  intro t listed L hsz hnd hlen hL' hlt hdown hdownF p q a w E' X β ν ζ xb hI hno hyes
  have hnil:L=[]:=List.eq_nil_of_length_eq_zero hlen
  have hall:∀ i,listed.getD i false=true↔i < h:=by
   intro i
   refine ⟨hlt i,fun hi=>?_⟩
   cases hc:listed.getD i false with
   | true=>rfl
   | false =>
    have:=(hL' i).2 ⟨hi,hc⟩
    rw [hnil] at this; cases this
  have hfun:(fun i=>listed.getD i false=true)=fun i=>i < h:=funext fun i=>propext (hall i)
  have hI':=hI
  have hy:=hyes ((hall i0).2 hM.ih)
  rw [hfun] at hI' hy
  refine ⟨p,q,a,w,E',X,β,ν,ζ,xb,t,listed,hI',hy,rfl,⟨rfl,rfl⟩,hsz,hall,fun cs=>?_⟩
  rw [Nat.zero_add]; exact .refl _ _
 | succ n ih =>
  intro t listed L hsz hnd hlen hL' hlt hdown hdownF p q a w E' X β ν ζ xb hI hno hyes
  have hex:∃ i,i < h∧¬ listed.getD i false=true:=by
   cases hLL:L with
   | nil=>rw [hLL] at hlen; cases hlen
   | cons x l =>
    have:=(hL' x).1 (by rw [hLL]; exact List.mem_cons_self ..)
    exact ⟨x,this.1,by rw [this.2]; simp⟩
  obtain ⟨j0,hj0,hu0,hall0⟩:=least_undone (D:=fun i=>listed.getD i false=true) h hex
  have hj0n:j0 < ops.size:=Nat.lt_of_lt_of_le hj0 hM.hn
  have hr0':j0 ∈ Region.ready .any ops listed:=by
   refine mem_ready.2 ⟨?_,ops[j0],by simp [hj0n],fun e he hb=>hall0 e.on (hM.edgeF j0 _ (by simp [hj0n]) e he hb)⟩
   have:j0 < listed.size:=by omega
   simp only [Array.getD_eq_getD_getElem?] at hu0 ⊢
   simp [this] at hu0 ⊢
   exact hu0
  have hfu:n+1+(ops.size - h)=(n+(ops.size - h))+1:=by omega
  rw [hfu]
  simp only [Region.linearise.go]
  change ∃ p' q' a' w' E'' X' β' ν' ζ' xb' t' listed',_∧_∧_∧_∧_∧_∧∀ cs,Steps P (lone (b.atR a (.inRegion ops (match (Region.ready .any ops listed)[t % (Region.ready .any ops listed).length]? with
   | some i=>Region.linearise.go .any ops (n+(ops.size - h)) (t / (Region.ready .any ops listed).length) (listed.setIfInBounds i true) [i]
   | none=>[].reverse) :: k)) cs w) _
  cases hi:(Region.ready .any ops listed)[t % (Region.ready .any ops listed).length]? with
  | none =>
   exfalso
   cases hr:Region.ready .any ops listed with
   | nil=>rw [hr] at hr0'; cases hr0'
   | cons x xs =>
    rw [hr] at hi
    have hlt:t % (x :: xs).length < (x :: xs).length:=Nat.mod_lt _ (by simp)
    simp at hi
    simp at hlt
    omega
  | some j =>
   have hjr:j ∈ Region.ready .any ops listed:=List.mem_of_getElem? hi
   obtain ⟨hjz,o,ho,hal⟩:=mem_ready.1 hjr
   have hjn:j < ops.size:=(Array.getElem?_eq_some_iff.1 ho).1
   have hjl:j < listed.size:=by omega
   have hj:listed.getD j false=false:=by
    simp only [Array.getD_eq_getD_getElem?] at hjz ⊢
    simp [hjl] at hjz ⊢
    exact hjz
   have hrdyF:∀ i,(numAt bsF j).testBit i=true→listed.getD i false=true:=by
    intro i hb
    obtain ⟨e,he,hbi,h1⟩:=hM.befF j o i ho hb
    rcases h1 with rfl | h1
    ·exact hal e he hbi
    ·exact hdownF e.on (hal e he hbi) i h1
   have hjh:j < h:=by
    rcases Nat.lt_or_ge j h with h1 | h1
    ·exact h1
    ·exact absurd (hrdyF j0 (hM.tail j h1 hjn j0 (by omega))) hu0
   have hrdy:∀ i,(numAt bs j).testBit i=true→listed.getD i false=true:=by
    intro i hb
    obtain ⟨e,he,hbi,h1⟩:=hM.set.bef j _ i (hM.aop j o hjh ho) hb
    rw [absOp_after] at he
    rcases h1 with rfl | h1
    ·exact hal e he hbi
    ·exact hdown e.on (hal e he hbi) i h1
   obtain ⟨p',q',a',w',E'',X',β',ν',ζ',xb',g1,g2,g3,g4,g5,g6⟩:=goM hS hM hR hL hr0 hn hdn hkf hkd (b:=b) (k:=k) hI hno hyes hdown hjh ho (by rw [hj]; simp) hrdy
   have hset:∀ i,(listed.setIfInBounds j true).getD i false=true↔i=j∨listed.getD i false=true:=by
    intro i
    by_cases e:i=j
    ·subst e
     simp only [Array.getD_eq_getD_getElem?]
     simp [hjl]
    ·rw [getD_set_ne false (Ne.symm e)]
     simp [e]
   have hfun:(fun i=>(listed.setIfInBounds j true).getD i false=true)=fun i=>i=j∨listed.getD i false=true:=funext fun i=>propext (hset i)
   have hjL:j ∈ L:=(hL' j).2 ⟨hjh,hj⟩
   obtain ⟨p2,q2,a2,w2,E2,X2,β2,ν2,ζ2,xb2,t2,listed2,k1,k2,k3,k4,k5,k6,k7⟩:=ih (t / (Region.ready .any ops listed).length) (listed.setIfInBounds j true) (L.erase j) (by simpa using hsz) (hnd.erase j) (by rw [List.length_erase_of_mem hjL]; omega) (by
    intro i
    rw [hnd.mem_erase_iff,hL' i]
    constructor
    ·rintro ⟨h1,h2,h3⟩
     refine ⟨h2,?_⟩
     rw [getD_set_ne false (Ne.symm h1)]; exact h3
    ·rintro ⟨h1,h2⟩
     have hne:i≠j:=by
      rintro rfl
      have:=(hset i).2 (.inl rfl)
      rw [this] at h2; cases h2
     rw [getD_set_ne false (Ne.symm hne)] at h2
     exact ⟨hne,h1,h2⟩) (by
    intro i hd
    rw [hset] at hd
    rcases hd with rfl | hd
    ·exact hjh
    ·exact hlt i hd) (by
    intro i hd i' hb
    rw [hset] at hd ⊢
    rcases hd with rfl | hd
    ·exact .inr (hrdy i' hb)
    ·exact .inr (hdown i hd i' hb)) (by
    intro i hd i' hb
    rw [hset] at hd ⊢
    rcases hd with rfl | hd
    ·exact .inr (hrdyF i' hb)
    ·exact .inr (hdownF i hd i' hb)) (by rw [hfun]; exact g1) (fun hn'=>g2 fun hd=>hn' ((hset i0).2 hd)) (fun hd=>by rw [hfun]; exact g3 ((hset i0).1 hd))
   refine ⟨p2,q2,a2,w2,E2,X2,β2,ν2,ζ2,xb2,t2,listed2,k1,k2,k3.trans g4,⟨k4.1.trans g5.1,k4.2.trans g5.2⟩,k5,k6,fun cs=>?_⟩
   simp only []
   rw [linearise_go_acc,List.reverse_singleton,List.singleton_append]
   exact (g6 cs _).trans (k7 cs)
theorem looks_of {fl:List (Nat × Nat)} (hfl:fl=floatsOf (ops.toList.map fun o=>kind o.op) bs (0 :: starts (ops.toList.map fun o=>kind o.op) 0) (ops.toList.map fun o=>kind o.op) 0)
  (hsz:R.length=ops.size+1) (hall:fl.all (recheck P S ops R)=true):Looks P S ops bs R:=by
 generalize hks:ops.toList.map (fun o=>kind o.op)=ks at hfl
 have hks':∀ (i:Nat) (o:Oper),ops[i]? = some o→ks[i]? = some (kind o.op):=by
  intro i o ho
  rw [← hks,List.getElem?_map,Array.getElem?_toList,ho]; rfl
 have hksr:∀ (i m:Nat),ks[i]? = some m→∃ o,ops[i]? = some o∧kind o.op=m:=by
  intro i m h
  rw [← hks,List.getElem?_map,Array.getElem?_toList] at h
  cases ho:ops[i]? with
  | none=>rw [ho] at h; cases h
  | some o=>rw [ho] at h; exact ⟨o,rfl,by simpa using h⟩
 intro j p o ho hk hw hp
 have hpn:p≤ops.size:=by
  rcases hp with rfl | ⟨kk,rfl,o',h1,_⟩
  ·omega
  ·have:=(Array.getElem?_eq_some_iff.1 h1).1; omega
 cases hpin:pinned ks bs j p with
 | true =>
  unfold pinned at hpin
  simp only [Bool.or_eq_true,Bool.and_eq_true] at hpin
  rcases hpin with h1 | h1 | ⟨h1,h2⟩
  ·exact .inl h1
  ·obtain ⟨i,k1,k2,k3⟩:=anyK_spec h1
   obtain ⟨o',k4,k5⟩:=hksr i 3 k1
   exact .inr (.inl ⟨i,⟨o',k4,k5⟩,by omega,by simpa using k3⟩)
  ·refine .inr (.inr (.inl ⟨by simpa [Nat.ble_eq] using h1,fun i o' k1 k2 k3=>?_⟩))
   exact calm_spec h2 i _ (hks' i o' k3) (by omega) (by omega)
 | false =>
  refine .inr (.inr (.inr (recheck_spec hsz hall ho ?_ hpn hw)))
  rw [hfl]
  have hmem:p ∈ (0 :: starts ks 0):=by
   rcases hp with rfl | ⟨kk,rfl,o',h1,h2⟩
   ·simp
   ·have hk3:ks[kk]? = some 3:=by rw [hks' kk o' h1,h2]
    have:=starts_mem (k:=0) hk3
    rw [Nat.zero_add] at this
    exact List.mem_cons_of_mem _ this
  have:=floatsOf_mem (ks:=ks) (bs:=bs) (ps:=0 :: starts ks 0) (l:=ks) (k:=0) (j:=j) (p:=p) (by rw [hks' j o ho,hk]) hmem (by simpa using hpin)
  simpa using this
theorem concU_map {E:Env} {f:Nat→AV × AV} {m:Nat→MapEntry}:∀ {js:List Nat},(∀ i ∈ js,Conc E (f i).1 (m i).key∧Conc E (f i).2 (m i).val)→ConcU E (js.map f) (js.map m)
 | [],_=>trivial
 | j :: js,h=>⟨h j (List.mem_cons_self ..),concU_map fun i hi=>h i (List.mem_cons_of_mem _ hi)⟩
theorem drawM_spec {n0:Nat} {b:Frame} {st:St} {w:World} {x:Ctx} (hS:SelfOK x.P x.S) {id:Nat} {t:Tr AV} {a:Act} {k:List Item} (hr:Rel E w.heap st) (ht:ConcT E x.nt t a.tmps) (hmk:Marks n0 b.defers E w.heap st a.defers)
  {m:PlanM} (hm:planM ops=some m) (hl:(drawM x.P x.S x.nt ops t st (some m)).lim E.top):Arr x.P n0 E x.nt b w st (fun cs=>lone (b.atR a (.code (.region id ops true) :: k)) cs w) k (drawM x.P x.S x.nt ops t st (some m)):=by
 obtain ⟨bs,bsF,hM,hfl⟩:=planM_spec hm
 unfold drawM drawMR at hl ⊢
 simp only at hl ⊢
 cases hrc:recs x.P x.S x.nt m.aops m.aops.toList t st with
 | none=>trivial
 | some R =>
  rw [hrc] at hl
  simp only at hl ⊢
  cases hall:m.fl.all (recheck x.P x.S m.aops R) with
  | false=>trivial
  | true =>
   rw [hall] at hl
   simp only [cond_true] at hl ⊢
   cases hkv:kvs x.P m.d (ops.toList.take m.h) R with
   | none=>trivial
   | some es =>
    rw [hkv] at hl
    simp only at hl ⊢
    obtain ⟨e1,e2,e3,e4⟩:=recs_spec hrc
    have hsz:R.length=m.aops.size+1:=by simpa using e1
    rw [lastOf_spec hsz] at hl ⊢
    unfold mapEnd mapTail at hl ⊢
    simp only at hl ⊢
    have hah:m.aops.size=m.h:=hM.asz
    rw [hah] at hl ⊢
    cases hp:putT x.nt (recAt R m.h).t (some m.d) (.m (recAt R m.h).st.next) with
    | none=>trivial
    | some t2 =>
     rw [hp] at hl
     simp only [Tr.seen_eq] at hl ⊢
     rcases lim_up (upo_evOps hS.up (ops.toList.drop m.h) t2 ((recAt R m.h).st.new (.mu es))) hl with hno | hnn
     ·rw [hno]; trivial
     have hn1:(recAt R m.h).st.next+1≤E.top:=hnn
     have hdn:m.d < x.nt:=putT_lt hp
     have hR:Ran x.P x.S x.nt m.aops R:=fun i o ho=>e4 i o (by rw [Array.getElem?_toList]; exact ho)
     have hL:Looks x.P x.S m.aops bs R:=looks_of hfl hsz hall
     have hn:(recAt R m.aops.size).st.next≤E.top:=by rw [hah]; omega
     have hr0:Rel E w.heap (recAt R 0).st:=by rw [e3]; exact hr
     obtain ⟨js0,f1,f2,f3,f4,f5,f6⟩:=kvs_spec (R0:=R) (R:=R) (k:=0) (fun i=>by rw [Nat.zero_add]) hkv
     have hins:∀ i,i ∈ js0↔IsIns ops m.d m.h i:=by
      intro i
      rw [f3]
      constructor
      ·rintro ⟨_,o,q,h1,h2⟩
       have hlt:i < m.h:=by
        have:=(List.getElem?_eq_some_iff.1 h1).1
        simp at this; omega
       rw [Nat.sub_zero,List.getElem?_take_of_lt hlt,Array.getElem?_toList] at h1
       exact ⟨hlt,o,q,h1,h2⟩
      ·rintro ⟨hlt,o,q,h1,h2⟩
       exact ⟨Nat.zero_le _,o,q,by rw [Nat.sub_zero,List.getElem?_take_of_lt hlt,Array.getElem?_toList]; exact h1,h2⟩
     have hkf:∀ i o q,i < m.h→ops[i]? = some o→insOf m.d o=some q→keyFits x.P q.1 (KV R i).1=true:=fun i o q hi ho hq =>
      f5 i ((hins i).2 ⟨hi,o,q,ho,hq⟩) o q (by rw [Nat.sub_zero,List.getElem?_take_of_lt hi,Array.getElem?_toList]; exact ho) hq
     have hkd:∀ i i',IsIns ops m.d m.h i→IsIns ops m.d m.h i'→i≠i'→eqS (KV R i).1 (KV R i').1=some false:=fun i i' h1 h2 h3=>f6 i ((hins i).2 h1) i' ((hins i').2 h2) h3
     obtain ⟨q,n1,n2,n3,n4⟩:=next_K m.aops m.aops.size 0 (by omega)
     obtain ⟨g1,g2⟩:=ran_gap hS.up hR q n1 n2 n3
     let X:St:=⟨(recAt R 0).st.rows,(recAt R 0).st.live,(recAt R q).st.next⟩
     let listed:=Array.replicate ops.size false
     have hlf:∀ i,listed.getD i false=false:=by
      intro i
      simp only [listed,Array.getD_eq_getD_getElem?,Array.getElem?_replicate]
      split <;> rfl
     have hnol:∀ i,¬ (listed.getD i false=true):=fun i h=>by rw [hlf] at h; cases h
     have hI:Inv m.aops R x.nt E w.heap (fun y=>y=m.d) none (fun i=>listed.getD i false=true) (fun i=>q≤i) 0 q a w.heap E X (fun _=>0) (fun _=>0) (fun _=>undef):=by
      refine ⟨(Step.refl hr0).ext (fun _=>rfl) (fun _=>rfl) (ran_mono hS.up hR n1 n2),ht.1,fun x i o hd=>absurd hd (hnol i),fun x i o hd=>absurd hd (hnol i),fun y _ _=>?_,⟨n1,n2,fun i o h=>by omega,n3,n4,fun i _ _ hd=>hnol i hd,.inl rfl⟩,rfl,?_,?_,?_,?_,fun i hd=>absurd hd (hnol i),fun i i' hd=>absurd hd (hnol i),fun b ob hb=>by cases hb⟩
      ·rw [e2]; exact ht.2 y
      ·intro r h; exact ⟨hr0.freshRow r h,hr0.freshG r h⟩
      ·intro g al hg y hy; exact hr0.liveLt g al y hg hy
      ·intro i h1 h2 ha _
       have hge:(recAt R 0).st.next≤rowAt R i:=ran_mono hS.up hR h1 (Nat.le_of_lt ha.lt)
       have hlt:=row_lt hS.up hR ha h2 n2
       have hq:=ran_mono hS.up hR n2 (Nat.le_refl _)
       exact ⟨hr0.freshRow _ hge,hr0.freshG _ hge,hr0.fresh _ hge (by omega)⟩
      ·intro r h
       have:=g1 r fun i h1 h2 ha=>h i h1 h2 ha (fun ⟨h3,_⟩=>hnol i h3)
       exact ⟨this.1.symm,this.2.symm⟩
     obtain ⟨p2,q2,a2,w2,E2,X2,β2,ν2,ζ2,xb2,t',listed2,k1,k2,k3,k4,k5,k6,k7⟩:=schedM (b:=b) (k:=k) hS hM hR hL hr0 hn hdn hkf hkd m.h (w.tape w.drawn (.order b.fn id)) listed (List.range m.h) (by simp [listed]) List.nodup_range (by simp) (by
      intro i; simp [hlf i]) (fun i hd=>absurd hd (hnol i)) (fun j hd=>absurd hd (hnol j)) (fun j hd=>absurd hd (hnol j)) (w:={ w with drawn:=w.drawn+1 }) hI (fun _=>rfl) (fun hd=>absurd hd (hnol _))
     have hq2:q2=m.aops.size:=by
      rcases k1.gap.atq with h1 | h1
      ·exact h1
      ·have hlt:q2 < m.aops.size:=by obtain ⟨o,ho,_⟩:=h1; exact (Array.getElem?_eq_some_iff.1 ho).1
       exact absurd (by rw [← hah]; exact hlt) (k1.gap.after q2 (Nat.le_refl _) h1)
     subst hq2
     have hX:∀ r,X2.get r=(recAt R m.aops.size).st.get r∧X2.live.get r=(recAt R m.aops.size).st.live.get r:=fun r =>
      k1.rest r fun i h1 h2 ha hno=>absurd ⟨by rw [← hah]; exact h2,by omega⟩ hno
     rw [hah] at hX
     have hst:Step E E2 w.heap w2.heap (recAt R 0).st (recAt R m.h).st:=k1.st.ext (fun r=>(hX r).1.symm) (fun g=>(hX g).2.symm) (by rw [k1.next,hah]; exact Nat.le_refl _)
     obtain ⟨μ,ents,clock,js,mm,c1,c2,c3,c4,c5,c6⟩:=k2
     obtain ⟨u1,u2,u3,u4⟩:=k1.xtra μ _ c1
     let Y:St:=⟨(recAt R m.h).st.rows,(recAt R m.h).st.live,(recAt R m.h).st.next+1⟩
     have hstY:Step E E2 w.heap w2.heap (recAt R 0).st Y:=hst.ext (fun _=>rfl) (fun _=>rfl) (Nat.le_succ _)
     have hrel:=hst.rel
     have hunY:Un E2 Y μ:=by
      refine ⟨?_,u3.2⟩
      rintro ⟨r,row,B,hra,hB,hb⟩
      exact u3.1 ⟨r,row,B,by rw [St.alive_ext (X:=Y) (fun r=>(hX r).1) (fun g=>(hX g).2)]; exact hra,hB,hb⟩
     have hperm:(js.map mm).Perm (js0.map mm):=by
      refine List.Perm.map mm ((List.perm_ext_iff_of_nodup c4 f2).2 fun i=>?_)
      rw [c5,hins]
      exact ⟨fun h=>h.1,fun h=>⟨h,h.1⟩⟩
     have hrow:RowOK E2 w2.heap ⟨μ,0,0⟩ (.mu es):=by
      refine ⟨ents,clock,js0.map mm,u2,?_,by rw [c3]; exact hperm⟩
      rw [f1]
      exact concU_map fun i hi=>c6 i ((c5 i).2 ⟨(hins i).1 hi,((hins i).1 hi).1⟩)
     have htop:E2.top=E.top:=hst.top
     have hreg:=Step.reg (X':=(recAt R m.h).st.new (.mu es)) (r:=(recAt R m.h).st.next) (B:=⟨μ,0,0⟩) (row:=.mu es) hstY (hrel.fresh _ (Nat.le_refl _) (by omega)) (hrel.freshRow _ (Nat.le_refl _)) (Nat.lt_succ_self _)
      (fun g al hg hmem=>by have:=hrel.liveLt g al _ hg hmem; omega) (hrel.freshG _ (Nat.le_refl _)) (fun y=>St.get_new _ _ _) rfl (fun g=>.inl rfl) (fun _ _ e=>by cases e) u1 hunY hrow
     have hle:E2.le (E2.bind (recAt R m.h).st.next ⟨μ,0,0⟩):=Env.le_bind (hrel.fresh _ (Nat.le_refl _) (by omega))
     have hT:ConcT (E2.bind (recAt R m.h).st.next ⟨μ,0,0⟩) x.nt t2 a2.tmps:=by
      refine ⟨k1.sz,fun y=>?_⟩
      rw [putT_get hp y]
      by_cases hy:y=m.d
      ·subst hy
       rw [if_pos rfl,c2]
       exact .m _ ⟨μ,0,0⟩ Env.bind_self
      ·rw [if_neg (fun e=>hy (Option.some.inj e).symm)]
       refine Conc.mono hle ?_
       by_cases hex:∃ (i:Nat) (oi:Oper),m.aops[i]? = some oi∧oi.dst=some y
       ·obtain ⟨i,oi,hoi,hdi⟩:=hex
        have hin:i < m.aops.size:=(Array.getElem?_eq_some_iff.1 hoi).1
        have hval:tget (recAt R m.aops.size).t y=(recAt R i).v:=ran_slot hR hoi hdi m.aops.size hin (Nat.le_refl _) fun i' o' h1 h2 h3 h4=>by
         have:=hM.set.dst hoi h3 hdi h4; omega
        rw [← hah,hval]
        exact k1.slotV y i oi (by rw [← hah]; exact hin) hoi hdi fun ⟨_,hq⟩=>by omega
       ·have hno:∀ (i:Nat) (oi:Oper),m.aops[i]? = some oi→oi.dst≠some y:=fun i oi h1 h2=>hex ⟨i,oi,h1,h2⟩
        rw [← hah,ran_slot0 hR m.aops.size (Nat.le_refl _) fun i o _=>hno i o]
        exact k1.slot0 y hy fun i o _=>hno i o
     rw [e3] at hreg
     have hregW:StepW E (E2.bind (recAt R m.h).st.next ⟨μ,0,0⟩) w w2 st ((recAt R m.h).st.new (.mu es)):=⟨hreg,k4.1,k4.2⟩
     have htail:=ops_spec (b:=b) (k:=k) (n0:=n0) hS (ops.toList.drop m.h) m.h rfl hreg.rel hT (a:=a2) (w:=w2) (by rw [k3]; exact hmk.step hreg) (by rw [hreg.top]; exact hl)
     refine Arr.pre hregW (fun cs=>?_) htail
     refine (Steps.one stepR_region_draw).trans ?_
     have hsch:Region.schedule (x.P.follows .mixedOrders) ops (w.tape w.drawn (.order b.fn id))=Region.linearise.go .any ops (m.h+(ops.size - m.h)) (w.tape w.drawn (.order b.fn id)) listed []:=by
      have:m.h+(ops.size - m.h)=ops.size:=by have:=hM.hn; omega
      rw [this]
      simp only [Region.schedule,hS.mixed,Bool.true_or,if_true,Region.linearise,listed]
     rw [hsch]
     refine (k7 cs).trans ?_
     rw [tail_list hM (ops.size - m.h) t' listed2 m.h k5 (Nat.le_refl _) (by have:=hM.hn; omega) k6]
     have hlen:(ops.toList.drop m.h).length=ops.size - m.h:=by simp
     rw [hlen]
     exact .refl _ _
theorem draw_spec {n0:Nat} {b:Frame} {st:St} {w:World} {x:Ctx} (hS:SelfOK x.P x.S) {id:Nat} {t:Tr AV} {a:Act} {k:List Item} (hr:Rel E w.heap st) (ht:ConcT E x.nt t a.tmps) (hm:Marks n0 b.defers E w.heap st a.defers)
  (hl:(drawC x ops t st).lim E.top):Arr x.P n0 E x.nt b w st (fun cs=>lone (b.atR a (.code (.region id ops true) :: k)) cs w) k (drawC x ops t st):=by
 unfold drawC at hl ⊢
 cases hp:plan ops with
 | some fl=>rw [hp] at hl; exact drawR_spec hS hr ht hm hp hl
 | none =>
  rw [hp] at hl
  have e:drawP x.P x.S x.nt ops t st none=drawM x.P x.S x.nt ops t st (planM ops):=rfl
  rw [e] at hl ⊢
  cases hpm:planM ops with
  | none =>
   rw [hpm] at hl
   have e:drawM x.P x.S x.nt ops t st none=drawST x.P x.S x.nt ops t st (planS ops):=rfl
   rw [e] at hl ⊢
   exact drawST_spec hS hr ht hm hl
  | some m=>rw [hpm] at hl; exact drawM_spec hS hr ht hm hpm hl
end
end
end Go.Ev
