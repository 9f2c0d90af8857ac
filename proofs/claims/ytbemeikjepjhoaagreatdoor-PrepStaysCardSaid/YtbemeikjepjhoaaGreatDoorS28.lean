/-
  Slices that grow, of elements of any size. · Functions of the library that are known by contracts: how many digits a number has, by a table that is there; a map's copy.
-/
import Derived.Test.YtbemeikjepjhoaaGreatDoorS27
import Derived.Calls
namespace Go.Ev
noncomputable section
variable {P : Program} {S : Self} {t : Tr AV} {st : St}
structure GrTy (P:Program) (ty e z:Nat):Prop where
 sl:SlTy P ty e z
 z1:1≤z
 zero:∃ zs,zeroC P e=some zs∧zs.length=z
 small:z≤1000
 plain:plainArg P [ty,ty]=true
 ty0:tyEl P [ty,ty]=none
 by1:1≤byOf P e
 by2:byOf P e≤1000
theorem GrTy.fit {ty e z:Nat} (T:GrTy P ty e z) {n:Nat} (h:n≤10000000):fits P e n=true:=by
 obtain ⟨zs,hz,-⟩:=T.zero
 unfold fits
 rw [hz]
 have h1:Nat.ble 1 (byOf P e)=true:=Nat.ble_eq_true_of_le T.by1
 have h2:(2 * n+2000) * byOf P e≤281474976710656:=Nat.le_trans (Nat.mul_le_mul (show 2 * n+2000≤20002000 by omega) T.by2) (by decide)
 simp only [Option.isSome_some,h1,Nat.ble_eq_true_of_le h2,Bool.and_self]
theorem GrTy.el {ty e z:Nat} (T:GrTy P ty e z):elOf P ty=some e:=by unfold elOf; rw [T.sl.und]
theorem build_one {ty e z:Nat} (T:GrTy P ty e z) {x:Operand} {cs:List AV} (hc:(evO t x).cells=some cs) (hl:cs.length=z):opH (.buildSlice ty 1 #[(0,x)]) P S t st=some (.sl st.next 0 1 z (some 1),st.newCe cs):=by
 obtain ⟨zs,hz,hzl⟩:=T.zero
 show (match elOf P ty with
 | none=>none
 | some e=>match zeroC P e with
  | none=>none
  | some z=>(@Bool.rec (fun _=>Res) none (newSl st 1 (szOf P e) (fill (placeE (szOf P e)) (rep 1 z) (vals t [(0,x)]))) (Nat.ble (1 * szOf P e) 16777216)))=_
 rw [T.el]
 simp only [hz,T.sl.sz]
 have h1:Nat.ble (1 * z) 16777216=true:=Nat.ble_eq_true_of_le (by have:=T.small; omega)
 rw [h1]
 show newSl st 1 z (fill (placeE z) (zs++[]) [(0,evO t x)])=_
 have h2:fill (placeE z) (zs++[]) [(0,evO t x)]=some cs:=by
  simp only [fill,placeE,Nat.zero_mul,hc,ovr_zero,List.append_nil]
  have h3:(Nat.beq cs.length z && Nat.ble (0+z) zs.length)=true:=by
   rw [hl,hzl,nbeq,decide_eq_true rfl,Nat.ble_eq_true_of_le (by omega)]; rfl
  rw [h3,over_all (by omega)]
 rw [h2]
 rfl
theorem grow_rowZ {r g n z:Nat} {cs new:List AV} {al:List Nat} {m:Nat} (h:st.ce r=some (cs,g,al)) (hz:cs.length=n * z) (hg:g < st.next) :
  ∃ st',growRow st r 0 n z m new=some (.sl st.next 0 m z none,st')∧(∃ al',st'.ce st.next=some (cs++new,g,al'))∧st'.next=st.next+1 ∧
   (∀ r,r < st.next→st'.get r=st.get r)∧∀ g',g'≠g→st'.live.get g'=st.live.get g':=by
 unfold growRow
 rw [h]
 simp only [cut_zero,← hz,takeN_all,Nat.zero_add]
 refine ⟨_,rfl,⟨(@Bool.rec (fun _=>_) [st.next] (st.next :: from_ r al) (Nat.beq cs.length cs.length)),?_⟩,rfl,fun r' hr'=>?_,fun g' hg'=>?_⟩
 ·have:mem st.next (@Bool.rec (fun _=>List Nat) [st.next] (st.next :: from_ r al) (Nat.beq cs.length cs.length))=true:=by
   cases Nat.beq cs.length cs.length <;> simp [mem]
  simp only [St.ce,St.get,Tr.get_set,if_true,this]
 ·simp [St.get,Tr.get_set,Nat.ne_of_lt hr']
 ·simp [Tr.get_set,hg']
def OwZ (st:St) (lo z:Nat) (v:AV) (n:Nat) (cs:List AV) (g:Option Nat):Prop :=
 (v = .sn∧n=0∧cs=[]∧g=none)∨(∃ r,v = .sl r 0 0 z (some 0)∧n=0∧cs=[]∧g=none) ∨
 ∃ r f al,g=some f∧v = .sl r 0 n z none∧st.ce r=some (cs,f,al)∧cs.length=n * z∧1≤n∧lo≤r∧lo≤f∧r < st.next∧f < st.next
section
variable {lo z n : Nat} {v : AV} {cs : List AV} {g : Option Nat}
theorem OwZ.nil (st:St) (lo z:Nat):OwZ st lo z .sn 0 [] none:=.inl ⟨rfl,rfl,rfl,rfl⟩
theorem OwZ.keep {A B:List Nat} {st':St} (h:OwZ st lo z v n cs g) (k:Kp A B st st') (hA:∀ x,x ∈ A→x < lo) (hB:∀ x,x ∈ B→x < lo∨g≠some x):OwZ st' lo z v n cs g:=by
 rcases h with h | h | ⟨r,f,al,rfl,rfl,hc,hl,h0,h1,h2,h3,h4⟩
 ·exact .inl h
 ·exact .inr (.inl h)
 ·refine .inr (.inr ⟨r,f,al,rfl,rfl,k.ce hc h3 h4 (fun hh=>?_) (fun hh=>?_),hl,h0,h1,h2,Nat.lt_of_lt_of_le h3 k.next,Nat.lt_of_lt_of_le h4 k.next⟩)
  ·have:=hA _ hh; omega
  ·rcases hB _ hh with h | h
   ·omega
   ·exact h rfl
theorem OwZ.g_lt (h:OwZ st lo z v n cs g):∀ x,g=some x→lo≤x∧x < st.next:=by
 rintro x rfl
 rcases h with h | ⟨r,h⟩ | ⟨r,f,al,h0,rfl,hc,hl,h1,h2,h3,h4,h5⟩
 ·cases h.2.2.2
 ·cases h.2.2.2
 ·cases h0; exact ⟨h3,h5⟩
theorem OwZ.len (h:OwZ st lo z v n cs g):lenOf v=some n∧isText v=false:=by
 rcases h with ⟨rfl,rfl,-⟩ | ⟨r,rfl,rfl,-⟩ | ⟨r,f,al,-,rfl,-⟩ <;> exact ⟨rfl,rfl⟩
theorem OwZ.sc (h:OwZ st lo z v n cs g):isSc v=true:=by
 rcases h with ⟨rfl,rfl,-⟩ | ⟨r,rfl,rfl,-⟩ | ⟨r,f,al,-,rfl,-⟩ <;> rfl
theorem OwZ.cells (h:OwZ st lo z v n cs g):v.cells=some [v]:=by
 rcases h with ⟨rfl,rfl,-⟩ | ⟨r,rfl,rfl,-⟩ | ⟨r,f,al,-,rfl,-⟩ <;> simp
def Grown (v:AV) (z n:Nat) (cs:List AV):Prop:=(v = .sn∧n=0∧cs=[])∨v = .rs cs n z
theorem OwZ.fz {n0:Nat} {cs':List AV} (h:OwZ st lo z v n cs g) (hlo:n0≤lo) (hz:1≤z) (hc:FzL n0 st cs cs'):∃ v',Fz n0 st v v'∧Grown v' z n cs':=by
 rcases h with ⟨rfl,rfl,rfl,-⟩ | ⟨r,rfl,rfl,rfl,-⟩ | ⟨r,f,al,-,rfl,h1,h2,h3,h4,h5,h6,h7⟩
 ·exact ⟨.sn,.pure rfl,.inl ⟨rfl,rfl,FzL.same rfl hc⟩⟩
 ·have:cs'=[]:=FzL.same rfl hc
  subst this
  exact ⟨_,.slice0,.inr rfl⟩
 ·exact ⟨_,.slice h1 h2.symm (by omega) hc (by omega),.inr rfl⟩
theorem OwZ.app {ty e k:Nat} {x:AV} {new:List AV} (T:GrTy P ty e z) (h:OwZ st lo z v n cs g) (h1:lenOf x=some k) (h2:firstCells st z k x=some new) (h3:natOf x=none) (hs:allSc new=true) (hl:new.length=k * z) (hn:n+k≤10000000) (hlo:lo≤st.next) :
  ∃ v' g' st',bAppend P st [ty,ty] [v,x]=some (v',st')∧OwZ st' lo z v' (n+k) (cs++new) g'∧Kp [] g.toList st st'∧(g'=g∨g'=some st.next):=by
 have e0:(plainArg P [ty,ty] && hasInfo P e && allSc new)=true:=by rw [T.plain,T.sl.inf,hs]; rfl
 have eb:bAppend P st [ty,ty] [v,x]=append P st [ty,ty] v x:=by
  show append0 P st [ty,ty] v x (natOf x)=_
  rw [h3]
  show appT P st [ty,ty] v (append P st [ty,ty] v x)=_
  unfold appT; rw [T.ty0]
 rw [eb]
 by_cases h0:k=0
 ·subst h0
  have hnew:new=[]:=List.eq_nil_of_length_eq_zero (by omega)
  subst hnew
  refine ⟨v,g,st,?_,by simpa using h,.refl _ _ _,.inl rfl⟩
  unfold append
  simp only [T.el,h1,T.sl.sz,h2,e0]
  rcases h with ⟨rfl,rfl,-⟩ | ⟨r,rfl,rfl,-⟩ | ⟨r,f,al,-,rfl,-⟩ <;> simp
 ·have hb0:Nat.beq k 0=false:=by rw [nbeq]; simpa using h0
  have hz1:=T.z1
  rcases h with ⟨rfl,rfl,rfl,rfl⟩ | ⟨r,rfl,rfl,rfl,rfl⟩ | ⟨r,f,al,rfl,rfl,c1,c2,c3,c4,c5,c6,c7⟩
  ·refine ⟨.sl st.next 0 k z none,some st.next,st.newCe new,?_,.inr (.inr ⟨st.next,st.next,_,rfl,by simp,by simpa using newCe_ce new,by simpa using hl,by omega,hlo,hlo,Nat.lt_succ_self _,Nat.lt_succ_self _⟩),.newCe _ _ _,.inr rfl⟩
   unfold append
   simp only [T.el,h1,T.sl.sz,h2,e0,hb0,T.fit (show k≤10000000 by omega)]
   rfl
  ·refine ⟨.sl st.next 0 k z none,some st.next,st.newCe new,?_,.inr (.inr ⟨st.next,st.next,_,rfl,by simp,by simpa using newCe_ce new,by simpa using hl,by omega,hlo,hlo,Nat.lt_succ_self _,Nat.lt_succ_self _⟩),.newCe _ _ _,.inr rfl⟩
   unfold append
   have e2:Nat.ble (0+k) 0=false:=by
    rw [Bool.eq_false_iff]; intro hh
    have:=Nat.le_of_ble_eq_true hh
    omega
   simp only [T.el,h1,T.sl.sz,h2,e0,hb0,e2,T.fit (show 0+k≤10000000 by omega),nbeq,decide_true]
   simp [firstCells,grow]
  ·obtain ⟨st',k1,⟨al',k2⟩,k3,k4,k5⟩:=grow_rowZ (new:=new) (m:=n+k) c1 c2 c7
   refine ⟨_,some f,st',?_,.inr (.inr ⟨st.next,f,al',rfl,rfl,k2,by rw [List.length_append,c2,hl,Nat.add_mul],by omega,hlo,c5,by omega,by omega⟩),⟨by omega,fun r h _=>k4 r h,fun g h hg=>k5 g (by simpa using hg)⟩,.inl rfl⟩
   unfold append
   simp only [T.el,h1,T.sl.sz,h2,e0,hb0]
   have e3:Nat.beq z z=true:=by rw [nbeq]; simp
   rw [e3]
   have e2:Nat.ble (n+k) (roomed st r 0 z)=false:=by
    have:roomed st r 0 z=n:=by
     unfold roomed; rw [c1]
     show (cs.length - 0) / z=n
     rw [Nat.sub_zero,c2,Nat.mul_div_cancel _ (by omega)]
    rw [this,Bool.eq_false_iff]
    intro hh
    have:=Nat.le_of_ble_eq_true hh
    omega
   show @Bool.rec (fun _=>Option (AV × St)) none (growAny st r 0 n z (n+k) new (fits P e (n+k))) true=_
   rw [T.fit hn]
   show growAny st r 0 n z (n+k) new true=_
   unfold growAny
   rw [e2]
   exact k1
theorem OwZ.app1 {ty e:Nat} {new:List AV} (T:GrTy P ty e z) (h:OwZ st lo z v n cs g) (hs:allSc new=true) (hl:new.length=z) (hn:n+1≤10000000) (hlo:lo≤st.next) :
  ∃ v' g' st',bAppend P (st.newCe new) [ty,ty] [v,.sl st.next 0 1 z (some 1)]=some (v',st')∧OwZ st' lo z v' (n+1) (cs++new) g'∧Kp [] g.toList st st'∧(g'=g∨∃ x,g'=some x∧st.next≤x):=by
 have h':OwZ (st.newCe new) lo z v n cs g:=h.keep (.newCe [] [] new) (by simp) (by simp)
 have hf:firstCells (st.newCe new) z 1 (.sl st.next 0 1 z (some 1))=some new:=by
  show (@Bool.rec (fun _=>Option (List AV)) (rd (st.newCe new) st.next 0 (1 * z)) (some []) (Nat.beq 1 0))=_
  show rd (st.newCe new) st.next 0 (1 * z)=_
  rw [rd_of (newCe_ce new),cut_zero,Nat.one_mul,← hl,takeN_all]
 obtain ⟨v',g',st',h1,h2,h3,h4⟩:=h'.app T (k:=1) rfl hf rfl hs (by omega) hn (Nat.le_succ_of_le hlo)
 refine ⟨v',g',st',h1,h2,(Kp.newCe _ _ _).trans h3,?_⟩
 rcases h4 with h4 | h4
 ·exact .inl h4
 ·exact .inr ⟨_,h4,Nat.le_succ _⟩
end
end
end Go.Ev
namespace Go.Ev
noncomputable section
variable {P : Program} {S : Self} {t : Tr AV} {st : St}
@[simp] theorem opH_slice {ty:TypeId} {x:Operand} {lo hi mx:Option Operand}:opH (.slice ty x lo hi mx) P S t st=give st (sliceR P st ty (evO t x) (lo.map (evO t)) (hi.map (evO t)) (mx.map (evO t))):=rfl
theorem slice_pre {ty e z:Nat} (T:SlTy P ty e z) {c:List AV} {n i:Nat} (hi:i≤n):sliceR P st ty (.rs c n z) none (some (.i .i64 (i:Int))) none=some (.rs c i z):=by
 have h1:slTy P ty z=true:=by
  unfold slTy elOf
  simp only [T.und,T.inf,T.sz]
  simp
 have h2:bnds n n none (some (.i .i64 (i:Int))) none=some (0,i,n):=by
  unfold bnds
  show @Bool.rec (fun _=>Option (Nat × Nat × Nat)) none (some (0,i,n)) (Nat.ble 0 i && Nat.ble i n && Nat.ble n n && true)=_
  rw [Nat.ble_eq_true_of_le (Nat.zero_le i),Nat.ble_eq_true_of_le hi,Nat.ble_eq_true_of_le (Nat.le_refl n)]
  rfl
 have h3:slice P ty (.rs c n z) none (some (.i .i64 (i:Int))) none=some (.rs c i z):=by
  unfold slice
  simp only [h2,h1]
  simp
 unfold sliceR
 rw [h3]
end
end Go.Ev
namespace Go.Ev
noncomputable section
variable {P : Program} {S : Self} {t : Tr AV} {st : St}
theorem Kp.drop {A B:List Nat} {r:Nat} (h:r ∈ A):Kp A B st (st.drop r):=⟨Nat.le_refl _,fun x _ hx=>by
 rw [St.get_drop,if_neg (fun e=>hx (by rw [e]; exact h))],fun _ _ _=>rfl⟩
@[simp] theorem callV_y {xs:List AV} {l:Nat}:callV P S st xs (.f (.yield l) [] [])=round S l xs st:=rfl
theorem sumTo_mono {L:List (List AV × Ex)}:∀ (j:Nat),j≤L.length→∀ i,i≤j→sumTo L i≤sumTo L j
 | 0,_,i,h=>by rw [Nat.le_zero.1 h]; exact Nat.le_refl _
 | j+1,hj,i,h=>by
  rcases Nat.lt_or_ge i (j+1) with h' | h'
  ·have:=sumTo_mono (L:=L) j (by omega) i (by omega)
   rw [sumTo_succ (by omega:j < L.length)]; omega
  ·rw [Nat.le_antisymm h h']; exact Nat.le_refl _
theorem sumTo_le (l:ExL) {i:Nat} (h:i≤l.list.length):sumTo l.list i≤l.size:=by
 rw [← sumTo_all]; exact sumTo_mono _ (Nat.le_refl _) _ h
end
end Go.Ev
namespace Go.Ev
noncomputable section
variable {P : Program}
def withF (F:FuncId→List AV→St→Option (AV × St)) (S:Self):Self :=
 ⟨fun f xs st=>match F f xs st with | some r=>some r | none=>S.call f xs st,S.code,S.dcall⟩
structure FOK (P:Program) (F:FuncId→List AV→St→Option (AV × St)):Prop where
 up:∀ f xs st,Up st (F f xs st)
 ok:∀ {E:Env} {w:World} {st st':St} {f:FuncId} {as:List AV} {us:List Value} {v:AV},Rel E w.heap st→ConcL E as us→F f as st=some (v,st')→st'.next≤E.top →
  ∃ E' w' cv,CallsTo P f us.toArray w w' cv∧StepW E E' w w' st st'∧Conc E' v cv
theorem withF_ok {F:FuncId→List AV→St→Option (AV × St)} (hF:FOK P F) (S:Self) (hS:SelfOK P S):SelfOK P (withF F S):=by
 refine ⟨hS.ng,hS.mixed,⟨fun f xs st=>?_,hS.up.code,hS.up.dcall⟩,fun {E w st st' f xs us v} hr hc h hn=>?_,fun {E w st nt c t a b} k hb hr ht hm hl=>hS.code k hb hr ht hm hl,hS.dcall⟩
 ·have:=hF.up f xs st
  unfold withF
  simp only
  cases hx:F f xs st with
  | none=>exact hS.up.call f xs st
  | some p=>rw [hx] at this; exact this
 ·unfold withF at h
  simp only at h
  cases hx:F f xs st with
  | none=>rw [hx] at h; exact hS.call hr hc h hn
  | some p=>rw [hx] at h; cases h; exact hF.ok hr hc hx hn
theorem withF_in {F:FuncId→List AV→St→Option (AV × St)} {S:Self} {f:FuncId} {xs:List AV} {st:St} {r:AV × St} (h:F f xs st=some r):(withF F S).call f xs st=some r:=by
 show (match F f xs st with | some r=>some r | none=>S.call f xs st)=_
 rw [h]
theorem withF_out {F:FuncId→List AV→St→Option (AV × St)} {S:Self} {f:FuncId} {xs:List AV} {st:St} (h:F f xs st=none):(withF F S).call f xs st=S.call f xs st:=by
 show (match F f xs st with | some r=>some r | none=>S.call f xs st)=_
 rw [h]
theorem callsTo_of {f:FuncId} {args:Array Value} {w W:World} {v:Value} (h:Calls P f args w fun e w'=>e = .returned v∧w'=W):CallsTo P f args w W v:=by
 intro cs
 obtain ⟨e,w',fr,⟨rfl,rfl⟩,h1,h2,h3⟩:=h cs
 exact ⟨fr,h1,h2,h3⟩
def Tabled (st:St):Prop:=∃ t,st.get 0=some (.ty t 1 false)
open Classical in
def digF (g:FuncId) (D:Nat→Nat) (f:FuncId) (xs:List AV) (st:St):Option (AV × St) :=
 if f=g∧Tabled st then match xs with
  | [.i .u64 (.ofNat n)]=>if 1≤n∧n < 18446744073709551616 then some (.i .i64 (D n:Int),st) else none
  | _=>none
 else none
theorem digF_in {g:FuncId} {D:Nat→Nat} {n:Nat} {st:St} (h:Tabled st) (h1:1≤n) (h2:n < 18446744073709551616):digF g D g [.i .u64 (n:Int)] st=some (.i .i64 (D n:Int),st):=by
 unfold digF
 rw [if_pos ⟨rfl,h⟩]
 show (if 1≤n∧n < 18446744073709551616 then some (AV.i .i64 (D n:Int),st) else none)=_
 rw [if_pos ⟨h1,h2⟩]
theorem digF_out {g f:FuncId} {D:Nat→Nat} {xs:List AV} {st:St} (h:f≠g):digF g D f xs st=none:=by
 unfold digF
 rw [if_neg (fun hh=>h hh.1)]
theorem digF_ok {g:FuncId} {D:Nat→Nat} (hd:∀ (n:Nat) (w:World),1≤n→n < 18446744073709551616→(∃ ty fz,w.heap[1]? = some (.cells pow10Cells ty fz))→Calls P g #[.int .u64 (n:Int)] w fun e w'=>e = .returned (.int .i64 (D n:Int))∧w'=w):FOK P (digF g D):=by
 refine ⟨fun f xs st=>?_,fun {E w st st' f xs us v} hr hc h hn=>?_⟩
 ·unfold digF
  split
  ·split
   ·split
    ·exact up_same
    ·exact up_none
   ·exact up_none
  ·exact up_none
 ·unfold digF at h
  split at h
  case isFalse=>cases h
  rename_i hg
  obtain ⟨rfl,t,ht⟩:=hg
  split at h
  ·rename_i n
   split at h
   ·rename_i hb
    cases h
    obtain ⟨ty,fz,hi⟩:=hr.tys _ _ _ _ ht
    cases hc with
    | cons _ _ u us h1 h2 =>
    cases h2
    cases h1
    exact ⟨E,w,_,callsTo_of (hd n w hb.1 hb.2 ⟨ty,fz,hr.imm _ _ hi⟩),.refl hr,.i _ _⟩
   ·cases h
  ·cases h
def copyF (g:FuncId) (f:FuncId) (xs:List AV) (st:St):Option (AV × St) :=
 if f=g then match xs with
  | [.m r]=>match st.get r with
   | some (.mp es c)=>some (.m st.next,st.new (.mp es c))
   | _=>none
  | _=>none
 else none
theorem copyF_in {g:FuncId} {r c:Nat} {es:List (AV × AV × Nat)} {st:St} (h:st.get r=some (.mp es c)):copyF g g [.m r] st=some (.m st.next,st.new (.mp es c)):=by
 unfold copyF
 rw [if_pos rfl]
 simp only [h]
theorem copyF_out {g f:FuncId} {xs:List AV} {st:St} (h:f≠g):copyF g f xs st=none:=by
 unfold copyF
 rw [if_neg h]
theorem copyF_nil {g:FuncId} {st:St}:copyF g g [.mn] st=none:=by
 unfold copyF
 rw [if_pos rfl]
theorem copyF_ok {g:FuncId} (hd:∀ (b:Nat) (es:Array MapEntry) (c:Nat) (w:World),w.heap[b]? = some (.map es c)→Calls P g #[.map (some b)] w fun e w'=>e = .returned (.map (some w.heap.size))∧w'=w.alloc (.map es c)):FOK P (copyF g):=by
 refine ⟨fun f xs st=>?_,fun {E w st st' f xs us v} hr hc h hn=>?_⟩
 ·unfold copyF
  split
  ·split
   ·split
    ·exact up_new
    ·exact up_none
   ·exact up_none
  ·exact up_none
 ·unfold copyF at h
  split at h
  case isFalse=>cases h
  rename_i hg
  subst hg
  split at h
  ·rename_i r
   split at h
   ·rename_i es c hrow
    cases h
    have ha:st.alive r=some (.mp es c):=by unfold St.alive; rw [hrow]
    obtain ⟨B,hB,ents,h1,h2⟩:=hr.rows _ _ ha
    cases hc with
    | cons _ _ u us k1 k2 =>
    cases k2
    cases k1 with
    | m _ B' hB' =>
    rw [hB] at hB'
    cases hB'
    have hs:=newRow_gives hr (show st.next+1≤E.top from hn) (.map ents c) (.mp es c) (fun _ _ e=>by cases e) (fun F hF=>⟨ents,by simp,h2.mono hF⟩)
    exact ⟨_,_,_,callsTo_of (hd B.b ents c w h1),hs,.m _ ⟨w.heap.size,0,0⟩ Env.bind_self⟩
   ·cases h
  ·cases h
end
end Go.Ev
