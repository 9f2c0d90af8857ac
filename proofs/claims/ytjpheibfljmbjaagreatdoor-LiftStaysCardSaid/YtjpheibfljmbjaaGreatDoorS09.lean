/- A part of the proof. -/
import Derived.Shelf.Strconv.Itoa3
import Derived.Shelf.SlMaps.Clone
import Derived.Test.YtjpheibfljmbjaaGreatDoorS08
import Derived.Shelf.Slices.In.SortNone
set_option maxRecDepth 100000
open Array renaming range->Q0
open List renaming range->Q1, flatMap_def->Q4, map_congr_left->Q8, mem_range->J3, flatMap_cons->J4
open Option renaming bind_some->Q2
open Go.Sort renaming flatK->Q3, ltStr->J1
open Go.Lib renaming itoa->Q6, bitLen->Q7
open Go.Shelf renaming Ren->Q9
open Nat renaming min_eq_left->J5
open Go.Proofs.LaysM renaming n171->J6
open Go.Proofs.SlLaysW renaming n5->J8
open Go.Proofs.Tryz
noncomputable section
open Go.Ev
namespace Go.Proofs.YtjpheibfljmbjaaGreatDoor
variable {f : FuncId}{i k n : Nat}{l xs : List AV}{st : St}{α : Type}
open Go.Shelf
def TryzL.abR:Q9:=⟨fun|171=>76|243=>111|246=>155|283=>165|284=>166|285=>167|286=>168|129=>101|317=>174|318=>175|319=>176|320=>177|337=>180|338=>181|n=>n,fun|3=>3|9=>9|2=>2|4=>4|171=>197|0=>0|53=>144|37=>199|5=>5|173=>200|212=>206|51=>142|20=>20|213=>207|46=>101|232=>211|233=>212|n=>n,fun|17=>1|18=>2|19=>3|n=>n⟩
theorem TryzL.Rt:J6 prog TryzL.abR:={
 mixed:=by kernel_rfl
 f129:=func101.trans (congrArg some (by kernel_rfl))
 f171:=func76.trans (congrArg some (by kernel_rfl))
 f243:=func111.trans (congrArg some (by kernel_rfl))
 f246:=func155.trans (congrArg some (by kernel_rfl))
 f283:=func165.trans (congrArg some (by kernel_rfl))
 f284:=func166.trans (congrArg some (by kernel_rfl))
 f285:=func167.trans (congrArg some (by kernel_rfl))
 f286:=func168.trans (congrArg some (by kernel_rfl))
 f317:=func174.trans (congrArg some (by kernel_rfl))
 f318:=func175.trans (congrArg some (by kernel_rfl))
 f319:=func176.trans (congrArg some (by kernel_rfl))
 f320:=func177.trans (congrArg some (by kernel_rfl))
 f337:=func180.trans (congrArg some (by kernel_rfl))
 f338:=func181.trans (congrArg some (by kernel_rfl))
 t0:=underlying0
 a0:=isAgg0
 z0:=sizeOf0
 v0:=zeroValue0
 t2:=underlying2
 a2:=isAgg2
 z2:=sizeOf2
 v2:=zeroValue2
 t3:=underlying3
 a3:=isAgg3
 z3:=sizeOf3
 v3:=zeroValue3
 t4:=underlying4
 a4:=isAgg4
 z4:=sizeOf4
 v4:=zeroValue4
 t5:=underlying5
 a5:=isAgg5
 z5:=sizeOf5
 v5:=zeroValue5
 t9:=underlying9
 a9:=isAgg9
 z9:=sizeOf9
 v9:=zeroValue9
 t20:=underlying20
 a20:=isAgg20
 z20:=sizeOf20
 v20:=zeroValue20
 t37:=underlying199
 a37:=isAgg199
 z37:=sizeOf199
 v37:=zeroValue199
 t46:=underlying101
 a46:=isAgg101
 z46:=sizeOf101
 v46:=zeroValue101
 t51:=underlying142
 a51:=isAgg142
 z51:=sizeOf142
 v51:=zeroValue142
 t53:=underlying144
 a53:=isAgg144
 z53:=sizeOf144
 v53:=zeroValue144
 t171:=underlying197
 a171:=isAgg197
 z171:=sizeOf197
 v171:=zeroValue197
 t173:=underlying200
 a173:=isAgg200
 z173:=sizeOf200
 v173:=zeroValue200
 t212:=underlying206
 a212:=isAgg206
 z212:=sizeOf206
 v212:=zeroValue206
 t213:=underlying207
 a213:=isAgg207
 z213:=sizeOf207
 t232:=underlying211
 a232:=isAgg211
 z232:=sizeOf211
 v232:=zeroValue211
 t233:=underlying212
 a233:=isAgg212
 z233:=sizeOf212
 v233:=zeroValue212
 g17:=by kernel_rfl
 g18:=by kernel_rfl
 g19:=by kernel_rfl
 i0:=by kernel_rfl
 i2:=by kernel_rfl
 i3:=by kernel_rfl
 i4:=by kernel_rfl
 i5:=by kernel_rfl
 i9:=by kernel_rfl
 i20:=by kernel_rfl
 i37:=by kernel_rfl
 i46:=by kernel_rfl
 i51:=by kernel_rfl
 i53:=by kernel_rfl
 i171:=by kernel_rfl
 i173:=by kernel_rfl
 i212:=by kernel_rfl
 i232:=by kernel_rfl
 i233:=by kernel_rfl
 m17:=by kernel_rfl
 m18:=by kernel_rfl
 m19:=by kernel_rfl }
def TryzL.SE:Q9:=⟨fun|5=>74|7=>108|n=>n,fun|23=>86|25=>9|3=>9|4=>4|20=>20|n=>n,fun|n=>n⟩
theorem TryzL.YX:J8 prog TryzL.SE:={
 mixed:=by kernel_rfl
 f5:=⟨f74.name,by decide,func74.trans (congrArg some (by kernel_rfl))⟩
 f7:=func108.trans (congrArg some (by kernel_rfl))
 t4:=underlying4
 a4:=isAgg4
 z4:=sizeOf4
 v4:=zeroValue4
 t20:=underlying20
 a20:=isAgg20
 z20:=sizeOf20
 v20:=zeroValue20
 t23:=underlying86
 a23:=isAgg86
 z23:=sizeOf86
 v23:=zeroValue86 }
theorem Vf {w:World}(h:∃ ty fz,w.heap[1]? = some (.cells Go.Ev.xp ty fz)):Lib.TabIs prog w "internal/strconv.uint64pow10" .u64 Lib.pow10Tab:=by obtain⟨ty,fz,h⟩:=h;unfold Lib.TabIs World.var?;rw[show prog.globalNamed "internal/strconv.uint64pow10"=some 1 from TryzL.Rt.m17];simp only[Q2,h];rfl
theorem YP(n:Nat)(w:World)(h2:n<9223372036854775808)(h:∃ ty fz,w.heap[1]? = some (.cells Go.Ev.xp ty fz)):
  Calls prog 76 #[.int .i64 (n:Int)] w fun e w'=>e=.returned (.string ⟨(Q6 n).toArray⟩)/\∃ k os,w'=Sort.grow (w.drewN k) os :=
 Any.strconv_Itoa TryzL.Rt n (by omega) (by omega) w (Vf h)
theorem YI(b:Nat)(es:Array MapEntry)(c:Nat)(w:World)(hb:w.heap[b]? = some (.map es c)):
  Calls prog 74 #[.map (some b)] w fun e w'=>e=.returned (.map (some w.heap.size))/\w'=w.alloc (.map es c):=
 AnyW.maps_Clone TryzL.YX b es c w hb
open Go.Ev Go.Sort
def jW(l:List α)(i:Nat):List α:=(l.drop (8*i)).take 8
def nameAt(l:List AV)(i:Nat):ah:=match l[8*i]? with|some (.s s)=>s|_=>[]
def clip(k i:Nat):Nat:=min i (k-1)
def vW(l:List AV)(k i j:Nat):Int:=uW (nI (nameAt l (clip k i))) (nI (nameAt l (clip k j)))
def wu(l:List AV)(k:Nat):List Nat:=(Sort.pdq (ltOf (vW l k)) (Q0 k) 0 k (Q7 k) true true).toList
def ur(l:List AV)(k:Nat):List AV:=(wu l k).flatMap (jW l)
def xq(l:List AV)(k:Nat):Bool:=(Q1 k).all fun i=>match l[8*i]? with|some (.s _)=>true|_=>false
theorem TT(l:List AV)(k:Nat):ltOf (vW l k)=fun x y=>J1 (nI (nameAt l (clip k x))) (nI (nameAt l (clip k y))):=by grind[ltOf,vW,uW,J1]
theorem NL(l:List AV)(k:Nat):SWO (ltOf (vW l k)):=by rw[TT];exact⟨fun x=>swo_ltStr.irrefl _,fun x y z=>swo_ltStr.trans _ _ _,fun x y z=>swo_ltStr.ntrans _ _ _⟩
theorem QA(l:List AV)(k:Nat):(wu l k).Perm (Q1 k):=by have h:=(pdq_sorts (ltOf (vW l k)) (NL l k) (Q0 k) 0 k (Q7 k) true true (Nat.zero_le _) (by simp) (Or.inl rfl)).1;obtain⟨h1,-,h2⟩:=h;grind[Array.extract_size,wu]
theorem Qc(h:i∈wu l k):i<k:=J3.1 ((QA l k).mem_iff.1 h)
theorem aa7{l:List α}(h:l.length=k*8)(hi:i<k):(jW l i).length=8:=by grind[jW]
theorem QR{α:Type}[Inhabited α](enc:α->List Value)(k:Nat)(hk:∀ x,(enc x).length=k):∀ l:List α,((Q1 (l.length*k)).map fun t=>(enc l[t / k]!)[t % k]!)=l.flatMap enc
 |[]=>by simp
 |x::l=>by
  have k0:k=0\/0<k:=by omega
  rcases k0 with rfl|k0
  ·simp_all
  ·rw[List.length_cons,Nat.add_mul,Nat.one_mul,Nat.add_comm,List.range_add,List.map_append,J4,<-QR enc k hk l,List.map_map];congr 1
   ·apply List.ext_getElem
    ·simp[hk]
    ·intro i h1 h2;have hi:i<k:=by simpa using h1
     simp only[List.getElem_map,List.getElem_range];rw[Nat.div_eq_of_lt hi,Nat.mod_eq_of_lt hi,getElem!_pos _ 0 (by simp)];simp only[List.getElem_cons_zero];rw[getElem!_pos _ i (by rw[hk];exact hi)]
   simp_all
theorem Pa[Inhabited α](enc:α->List Value)(k:Nat)(hk:∀ x,(enc x).length=k)(d:Array α):Q3 enc k d=(d.toList.flatMap enc).toArray:=by rw[<-QR enc k hk];grind[Q3]
theorem Kb{α:Type}:∀ (k:Nat) (l:List α),l.length=k*8->(Q1 k).flatMap (jW l)=l
 |0,l,h=>by grind
 |k+1,l,h=>by
  have ih:=Kb k (l.take (k*8)) (by grind);rw[List.range_succ,List.flatMap_append];have e1:(Q1 k).flatMap (jW l)=(Q1 k).flatMap (jW (l.take (k*8))):=by grind[Q8,jW,List.drop_take]
  rw[e1,ih];simp only[J4,List.flatMap_nil,List.append_nil];unfold jW;rw[Nat.mul_comm 8 k,List.take_of_length_le (l:=l.drop (k*8)) (by grind),List.take_append_drop]
def vk(f:FuncId)(xs:List AV)(st:St):Option (AV× St):=
 if f=25 then match xs with
  |[.sl r o n 8 _,.f (.func 26) [] []]=>if 0<n/\n<4611686018427387904 then(rd st r o (n*8)).bind fun l=>if xq l n=true/\bq l=true then(wt st r o (ur l n)).bind fun st'=>some (.tu [],st') else none else none
  |_=>none
 else none
theorem Qu(h:f≠25):vk f xs st=none:=by unfold vk;grind
theorem RQ{r o:Nat}{c:Option Nat}{st':St}(h1:0<n)(h2:n<4611686018427387904)(h3:rd st r o (n*8)=some l)(h4:xq l n=true)(h5:bq l=true)(h6:wt st r o (ur l n)=some st'):vk 25 [.sl r o n 8 c,.f (.func 26) [] []] st=some (.tu [],st'):=by grind[vk]
theorem Nw{E:Env}{l:List AV}{us:List Value}(h:aP E l us):∀ is:List Nat,aP E (is.flatMap (jW l)) (is.flatMap (jW us))
 |[]=>.nil
 |i::is=>by exact((h.drop _).take _).append (Nw h is)
theorem Yh(h:xq l k=true)(hi:i<k):l[8*i]? = some (.s (nameAt l i)):=by grind[xq,nameAt]
theorem aas:tw prog vk:=by
 refine⟨fun f xs st=>?_,fun {ks E w st st' f xs us v} hr hc h hn'=>?_⟩
 ·unfold vk;split
  ·split
   ·split
    ·cases h1:rd st _ _ _ with
     |none=>exact bF
     |some l =>
      simp only[Q2];split
      ·cases h3:wt st _ _ _ with
       |none=>exact bF
       |some st'=>exact fun _ _ e=>by cases e;exact yV _ h3
      ·exact bF
    ·exact bF
   ·exact bF
  ·exact bF
 ·unfold vk at h;split at h
  case isFalse=>grind
  rename_i hg;subst hg;split at h
  case h_2=>grind
  rename_i r o n c;split at h
  case isFalse=>grind
  rename_i hb;cases h1:rd st r o (n*8) with
  |none=>grind
  |some l =>
  rw[h1,Q2]at h;split at h
  case isFalse=>grind
  rename_i h2;cases h3:wt st r o (ur l n) with
  |none=>grind
  |some st2 =>
  rw[h3,Q2]at h;cases h;cases hc with
  |cons _ _ u us k1 k2 =>
  cases k2 with
  |cons _ _ u2 us2 k2 k3 =>
  cases k3;cases k2 with
  |f _ _ _ vx vy hy' hx hy =>
  cases hx;cases hy;obtain⟨B,k,hB,rfl,hk⟩:=Iz k1 hb.1;obtain⟨us,e1,e2,e3,e4⟩:=IQ hr h1 hB;have one:=BW e1 h2.2;have hcl:∀ i,clip n i<n:=fun i=>by show min i (n-1)<n;omega
  let enc:Nat->List Value:=fun i=>jW us (clip n i)
  have hen:∀ i,(enc i).length=8:=fun i=>aa7 e2 (hcl i)
  have hst:∀ i,i<n->∃ b:ByteArray,us[8*i]? = some (.string b)/\b.data.toList=nI (nameAt l i):=fun i hi=>by
   obtain⟨u,q1,q2⟩:=e1.get (8*i) _ (Yh h2.1 hi);generalize nameAt l i=s at q2;cases q2 with
   |s bs=>exact⟨bs,q1,(IP _).symm⟩
  have h0:∀ i,∃ b:ByteArray,(enc i)[0]? = some (.string b)/\b.data.toList=nI (nameAt l (clip n i)):=fun i=>by
   obtain⟨b,q1,q2⟩:=hst (clip n i) (hcl i);refine⟨b,?_,q2⟩;show((us.drop (8*clip n i)).take 8)[0]? = _
   grind
  have hfl:Q3 enc 8 (Q0 n)=us.toArray:=by
   rw[Pa enc 8 hen,Array.toList_range];congr 1;refine Eq.trans ?_ (Kb n us e2);rw[Q4,Q4];congr 1;refine Q8 fun i hi=>?_
   have hi:=J3.1 hi;show jW us (min i (n-1))=_
   rw[J5 (by omega)]
  have hH:HoldsK enc 8 w B.b (o+B.d) (Q0 n):=by
   show Sort.Holds id w _ _ _
   rw[hfl];exact e3
  have hsz:(Q0 n).size=n:=by simp
  have eg:∀ args w,(callFunc 26 args).run prog w=.ok (.enter 26 args) w:=enters_of func26 (by kernel_rfl) rfl;have hcmp:CmpLays prog 26 #[] enc 8 (vW l n) B.b (o+B.d) (Q0 n).size w:=fun m os dk _ x y=>by obtain⟨bx,x1,x2⟩:=h0 x;obtain⟨bY,y1,y2⟩:=h0 y;have:=Xx (enc x) (enc y) bx bY (hen x) (hen y) x1 y1 (sortWorldK enc 8 w B.b (o+B.d) m dk os);rw[x2,y2]at this;exact this
  have hC:=AnyQ.slices_SortFunc_eq XI 8 isAgg37 sizeOf37 enc hen (fun x v hv=>one v (List.mem_of_mem_drop (List.mem_of_mem_take hv))) (vW l n) (NL l n) 26 #[] B.b (o+B.d) k (Q0 n) w eg hcmp hH e4 (by rw[hsz];exact hb.2);rw[hsz]at hC;obtain⟨W,h4,m,os,rfl⟩:=yb hC;refine⟨E,_,_,h4,?_,.tu _ _ .nil⟩;have e5:Q3 enc 8 (Sort.pdq (ltOf (vW l n)) (Q0 n) 0 n (Q7 n) true true)=((wu l n).flatMap (jW us)).toArray:=by
   rw[Pa enc 8 hen];congr 1;show(wu l n).flatMap enc=_
   rw[Q4,Q4];congr 1;refine Q8 fun i hi=>?_
   have hi:=Qc hi;show jW us (min i (n-1))=_
   rw[J5 (by omega)]
  unfold sortWorldK putRowK;rw[e5];exact HJ hr h3 (Nw e1 _) m os hB
def ja(n:Nat):ah:=(Q6 (n:Int)).map UInt8.toNat
open Classical in
def vz(f:FuncId)(xs:List AV)(st:St):Option (AV× St):=
 if f=76/\mI st then match xs with
  |[.i .i64 (.ofNat n)]=>if n<9223372036854775808 then some (.s (ja n),st) else none
  |_=>none
 else none
theorem Wj(h:mI st)(h2:n<9223372036854775808):vz 76 [.i .i64 (n:Int)] st=some (.s (ja n),st):=by grind[vz]
theorem tF(h:f≠76):vz f xs st=none:=by simp_all[vz]
theorem Uv:tw prog vz:=by
 refine⟨fun f xs st=>?_,fun {ks E w st st' f xs us v} hr hc h hn=>?_⟩
 ·unfold vz;split
  ·split
   ·split
    ·exact gR
    ·exact bF
   ·exact bF
  ·exact bF
 ·unfold vz at h;split at h
  case isFalse=>grind
  rename_i hg;obtain⟨rfl,t,ht⟩:=hg;split at h
  case h_2=>grind
  rename_i n;split at h
  case isFalse=>grind
  rename_i hb;cases h;obtain⟨ty,fz,hi⟩:=hr.tys _ _ _ _ ht;have hw:=hr.imm _ _ hi;cases hc with
  |cons _ _ u us h1 h2 =>
  cases h2;cases h1;obtain⟨W,h1,k,os,rfl⟩:=yb (YP n w hb ⟨ty,fz,hw⟩);exact⟨E,_,_,h1,abq hr k os,.s ⟨(Q6 (n:Int)).toArray⟩⟩
theorem WI:tw prog (pj 47):=
 ZU (fun w=>Any.slices_Sort_string_none { PT with } none 0 w) fun blk off cap ss w=>Any.slices_Sort_string { PT with } blk off cap ss w
theorem VP:tw prog (qP 48):=
 UK (fun w=>Any.slices_Compact_string_empty { NB with } none 0 w) fun blk off cap ss w=>Any.slices_Compact_string { NB with } blk off cap ss w
