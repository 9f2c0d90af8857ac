/-
  Pairs of names: what the comparer of programs knows. · The comparer of expressions answers true for such as are the same but for their bound names. · The comparer of programs.
-/
import Derived.Test.YtbemeikjepjhoaaGreatDoorS45
namespace Go.Proofs.YtbemeikjepjhoaaGreatDoor
open Go.Ev
set_option maxRecDepth 100000
noncomputable section
variable {c : Option Self} {st : St}
abbrev Pairs:=List (Str × Str)
def pairV:Pairs→AV
 | []=>.pn
 | (a,b) :: l=>.rp [.s a,.s b,pairV l]
theorem pairV_pure:∀ l:Pairs,pureV (pairV l)=true
 | []=>rfl
 | (a,b) :: l=>by simp [pairV,pureV,pureL,pairV_pure l]
theorem pairV_sc (l:Pairs):(pairV l).cells=some [pairV l]∧isSc (pairV l)=true:=by
 cases l with
 | nil=>exact ⟨by simp [pairV],rfl⟩
 | cons p l=>exact ⟨by simp [pairV],rfl⟩
def alikeB:Pairs→Str→Str→Bool
 | [],a,b=>decide (a=b)
 | (u,v) :: l,a,b=>if u=a∨v=b then decide (u=a) && decide (v=b) else alikeB l a b
def withPr (l:Pairs) (A B:List Str):Pairs:=(A.zip B).reverse++l
theorem alikeB_cons (u v:Str) (l:Pairs) (a b:Str):alikeB ((u,v) :: l) a b=if u=a∨v=b then decide (u=a) && decide (v=b) else alikeB l a b:=by rw [alikeB]
theorem alike_call (l:Pairs) (a b:Str) {N:Nat} (hN:l.length+2≤N):(Tw c N).call 55 [pairV l,.s a,.s b] st=some (.b (alikeB l a b),st):=by
 obtain ⟨N,rfl⟩:∃ N',N=N'+1:=⟨N - 1,by omega⟩
 refine body_v (X:=[]) rfl rfl (.inr (by decide)) (.pure (by simp [pureL,pureV,pairV_pure])) Tryz.func55 rfl (Nat.le_of_ble_eq_true rfl) rfl ?_
 unfold bodyR
 simp [Tryz.f55,evC_loop]
 generalize hL:loopC _ _ _ _=L
 have lr:=loop_ret hL 0 l.length (fun i t _=>tget t 0=pairV (l.drop i)∧tget t 1 = .s a∧tget t 2 = .s b∧alikeB (l.drop i) a b=alikeB l a b) (fun t _=>tget t 1 = .s a∧tget t 2 = .s b∧alikeB l a b=decide (a=b)) (fun t _=>tget t 6 = .b (alikeB l a b)) (by omega)
  ⟨by simp,by simp,by simp,by simp⟩
  (by
   rintro i t st hi ⟨i0,i1,i2,iA⟩
   clear hL
   rw [List.drop_eq_getElem_cons hi] at i0 iA
   obtain ⟨⟨u,v⟩,huv⟩:∃ x,l[i]=x:=⟨_,rfl⟩
   rw [huv] at i0 iA
   simp only [pairV] at i0
   rw [alikeB_cons] at iA
   by_cases hu:u=a
   ·right
    simp only [hu,true_or,if_true,decide_true,Bool.true_and] at iA
    by_cases hv:v=b
    ·simp [i0,i1,i2,rp_neq Tryz.underlying105,off118_0,off118_1,load_rp inf9 ag9,str_eq,hu,hv,← iA]
    ·simp [i0,i1,i2,rp_neq Tryz.underlying105,off118_0,off118_1,load_rp inf9 ag9,str_eq,hu,hv,← iA]
   ·by_cases hv:v=b
    ·right
     simp only [hu,hv,or_true,if_true,decide_true] at iA
     simp [i0,i1,i2,rp_neq Tryz.underlying105,off118_0,off118_1,load_rp inf9 ag9,str_eq,hu,hv,← iA]
    ·left
     rw [if_neg (by simp [hu,hv])] at iA
     simp [i0,i1,i2,rp_neq Tryz.underlying105,off118_0,off118_1,off118_2,load_rp inf9 ag9,load_rp inf105 ag105,str_eq,hu,hv]
     exact iA)
  (by
   rintro t st ⟨i0,i1,i2,iA⟩
   clear hL
   rw [List.drop_length] at i0 iA
   simp only [pairV] at i0
   simp [i0,pn_neq Tryz.underlying105]
   exact ⟨i1,i2,iA.symm⟩)
 clear hL
 rcases lr with ⟨t1,s1,rfl,h1,h2,h3⟩ | ⟨t1,s1,rfl,h1⟩
 ·simp [h1,h2,h3,str_eq,resOf_eq,pmapO]
 ·simp [h1,resOf_eq,pmapO]
theorem zC118:zeroC Tryz.prog 118=some [.s [],.s [],.pn]:=by kernel_rfl
theorem wf118:wfTy Tryz.prog 118=true:=by kernel_rfl
theorem place118:∃ fs,Tryz.prog.underlying 118=some (.struct fs)∧placeF Tryz.prog fs 0=some (0,1)∧placeF Tryz.prog fs 1=some (1,1)∧placeF Tryz.prog fs 2=some (2,1):=⟨_,Tryz.underlying118,by kernel_rfl,by kernel_rfl,by kernel_rfl⟩
theorem build118 {S:Self} {t:Tr AV} {x y z:Operand} {v f g:AV} (hx:evO t x=v) (hy:evO t y=f) (hz:evO t z=g) (hv:v.cells=some [v]) (hf:f.cells=some [f]) (hg:g.cells=some [g]):opH (.build 118 #[(0,x),(1,y),(2,z)]) Tryz.prog S t st=some (.ag [v,f,g],st):=by
 obtain ⟨fs,h1,h2,h3,h4⟩:=place118
 show @Bool.rec (fun _=>Res) none (opBuild1 Tryz.prog 118 [(0,evO t x),(1,evO t y),(2,evO t z)] st) (wfTy Tryz.prog 118)=_
 rw [wf118,hx,hy,hz]
 show opBuild1 Tryz.prog 118 [(0,v),(1,f),(2,g)] st=_
 unfold opBuild1
 rw [h1]
 simp only [zC118,fillAg,fill,h2,h3,h4,hv,hf,hg]
 rfl
def PairAt (s:St) (base:Pairs):Pairs→AV→Prop
 | [],v=>v=pairV base
 | (a,b) :: m,v=>∃ r g al w,v = .p r 0∧s.ce r=some ([.s a,.s b,w],g,al)∧r < s.next∧g < s.next∧PairAt s base m w
theorem PairAt.keep {s s':St} {base:Pairs} (k:Kp [] [] s s'):∀ {m:Pairs} {v:AV},PairAt s base m v→PairAt s' base m v
 | [],v,h=>h
 | (a,b) :: m,v,⟨r,g,al,w,h1,h2,h3,h4,h5⟩=>⟨r,g,al,w,h1,k.ce h2 h3 h4 (by simp) (by simp),Nat.lt_of_lt_of_le h3 k.next,Nat.lt_of_lt_of_le h4 k.next,h5.keep k⟩
theorem PairAt.fz {s:St} {base:Pairs}:∀ {m:Pairs} {v:AV},PairAt s base m v→Fz 0 s v (pairV (m++base))
 | [],v,h=>by subst h; exact Fz.pure (pairV_pure _)
 | (a,b) :: m,v,⟨r,g,al,w,h1,h2,h3,h4,h5⟩=>by
  subst h1
  exact Fz.ptr h2 (Nat.zero_le _) (.cons (.pure rfl) (.cons (.pure rfl) (.cons h5.fz .nil)))
theorem PairAt.sc {s:St} {base:Pairs} {m:Pairs} {v:AV} (h:PairAt s base m v):v.cells=some [v]:=by
 cases m with
 | nil=>subst h; exact (pairV_sc _).1
 | cons p m=>obtain ⟨r,g,al,w,rfl,-⟩:=h; simp
theorem pairs_call (l:Pairs) {pv qv:AV} {A B:List Str} (hp:IsSl pv (A.map .s)) (hq:IsSl qv (B.map .s)) (hl:A.length=B.length) (hA:A.length≤1000000) {N:Nat} (hN:2000000≤N) :
  (Tw c N).call 56 [pairV l,pv,qv] st=some (pairV (withPr l A B),st):=by
 obtain ⟨N,rfl⟩:∃ N',N=N'+1:=⟨N - 1,by omega⟩
 refine body_z rfl rfl rfl rfl (by decide) (by simp [pureL,pairV_pure,hp.pure (pure_strs _),hq.pure (pure_strs _)]) Tryz.func56 rfl (Nat.le_of_ble_eq_true rfl) (pairV_pure _) ?_
 unfold bodyR
 have ln:=fun st:St=>len_sl (st:=st) Tryz.underlying36 hp.len hp.text
 simp only [List.length_map] at ln
 simp [Tryz.f56,ln,evC_loop]
 generalize hL:loopC _ _ _ _=L
 obtain ⟨t1,s1,rfl,q0⟩:=loop_use hL 0 A.length
  (fun i t s=>tget t 1=pv∧tget t 2=qv∧tget t 9 = .i .i64 (A.length:Int)∧tget t 10 = .i .i64 (i:Int)∧∃ v,tget t 0=v∧PairAt s l ((A.take i).zip (B.take i)).reverse v)
  (fun t s=>∃ v,tget t 0=v∧PairAt s l (A.zip B).reverse v) (by omega)
  ⟨by simp,by simp,by simp,by simp,pairV l,by simp,by simp [PairAt]⟩
  (by
   rintro i t s hi ⟨i1,i2,i9,i10,v,i0,iP⟩
   clear hL
   have hiB:i < B.length:=by omega
   have e3:(i:Int) < (A.length:Int):=by omega
   have e4:wr .i64 ((i:Int)+1)=((i+1:Nat):Int):=by rw [wr_in (by omega) (by omega)]; rfl
   obtain ⟨a1,x1,d1⟩:=hp.sat sl36 ag9 hi
   obtain ⟨a2,x2,d2⟩:=hq.sat sl36 ag9 hiB
   have hsc:=iP.sc
   have b1:=fun (t:Tr AV) (s:St) (h16:evO t (.tmp 16) = .s A[i]) (h20:evO t (.tmp 20) = .s B[i]) (h21:evO t (.tmp 21)=v)=>build118 (S:=Tw c N) (st:=s) h16 h20 h21 (by simp) (by simp) hsc
   have c1:=newCe_ce (st:=s) [.s A[i],.s B[i],v]
   have k1:=Kp.newCe (st:=s) [] [] [.s A[i],.s B[i],v]
   simp [i9,i10,e3,evC_draw]
   rw [drawC_nil (by kernel_rfl)]
   simp [i0,i1,i2,i10,e4,x1,x2,d1,d2,b1]
   refine ⟨_,_,⟨rfl,rfl⟩,by simp [i1],by simp [i2],by simp [i9],by simp,?_⟩
   have:((A.take (i+1)).zip (B.take (i+1))).reverse=(A[i],B[i]) :: ((A.take i).zip (B.take i)).reverse:=by
    rw [← List.take_append_getElem hi,← List.take_append_getElem hiB,List.zip_append (by simp; omega)]
    simp
   rw [this]
   exact ⟨s.next,s.next,_,v,by simp,c1,Nat.lt_succ_self _,Nat.lt_succ_self _,iP.keep k1⟩)
  (by
   rintro t s ⟨i1,i2,i9,i10,v,i0,iP⟩
   clear hL
   simp [i9,i10]
   rw [List.take_length,hl,List.take_length] at iP
   exact ⟨_,_,⟨rfl,rfl⟩,by simpa [i0] using iP⟩)
 obtain ⟨v,q0,q1⟩:=q0
 clear hL
 refine ⟨v,s1,?_,q1.fz⟩
 simp [q0,resOf_eq,pmapO]
end
end Go.Proofs.YtbemeikjepjhoaaGreatDoor
namespace Go.Proofs.YtbemeikjepjhoaaGreatDoor
open Go.Ev
set_option maxRecDepth 100000
noncomputable section
variable {c : Option Self} {st : St}
mutual
def SameE:Pairs→Ex→Ex→Prop
 | p,.mk k nm num ps b a l,.mk k' nm' num' ps' b' a' l' =>
  (k=k'∧num=num'∧(txsOf ps).length=(txsOf ps').length∧b.len=b'.len∧a.len=a'.len∧l.len=l'.len∧(if k=1 then alikeB p nm nm'=true else nm=nm')) ∧
  SameA (withPr (withPr p (txsOf ps) (txsOf ps')) b.names b'.names) a a'∧SameA (withPr (withPr p (txsOf ps) (txsOf ps')) b.names b'.names) b b'∧SameL (withPr (withPr p (txsOf ps) (txsOf ps')) b.names b'.names) l l'
def SameA:Pairs→ExL→ExL→Prop
 | _,.nil _,.nil _=>True
 | q,.cons _ x l,.cons _ y m=>SameE q x y∧SameA q l m
 | _,.nil _,.cons _ _ _=>False
 | _,.cons _ _ _,.nil _=>False
def SameL:Pairs→ExL→ExL→Prop
 | _,.nil _,.nil _=>True
 | q,.cons p x l,.cons p' y m=>((altH (p,x)).k=(altH (p',y)).k∧(altH (p,x)).n=(altH (p',y)).n∧(altH (p,x)).m=(altH (p',y)).m∧(altH (p,x)).vs.length=(altH (p',y)).vs.length)∧SameE (withPr q (altH (p,x)).vs (altH (p',y)).vs) x y∧SameL q l m
 | _,.nil _,.cons _ _ _=>False
 | _,.cons _ _ _,.nil _=>False
end
theorem SameA.at {q:Pairs}:∀ {l m:ExL},SameA q l m→∀ (i:Nat) (h:i < l.list.length) (h':i < m.list.length),SameE q l.list[i].2 m.list[i].2
 | .nil _,_,_,i,h,_=>by simp [ExL.list] at h
 | .cons _ x l,.nil _,_,i,_,h'=>by simp [ExL.list] at h'
 | .cons _ x l,.cons _ y m,hs,0,h,h'=>by simp only [SameA] at hs; exact hs.1
 | .cons _ x l,.cons _ y m,hs,i+1,h,h'=>by
  simp only [SameA] at hs
  exact hs.2.at i (by simpa [ExL.list] using h) (by simpa [ExL.list] using h')
theorem SameL.at {q:Pairs}:∀ {l m:ExL},SameL q l m→∀ (i:Nat) (h:i < l.list.length) (h':i < m.list.length),((altH l.list[i]).k=(altH m.list[i]).k∧(altH l.list[i]).n=(altH m.list[i]).n∧(altH l.list[i]).m=(altH m.list[i]).m∧(altH l.list[i]).vs.length=(altH m.list[i]).vs.length)∧SameE (withPr q (altH l.list[i]).vs (altH m.list[i]).vs) l.list[i].2 m.list[i].2
 | .nil _,_,_,i,h,_=>by simp [ExL.list] at h
 | .cons _ x l,.nil _,_,i,_,h'=>by simp [ExL.list] at h'
 | .cons _ x l,.cons _ y m,hs,0,h,h'=>by simp only [SameL] at hs; exact ⟨hs.1,hs.2.1⟩
 | .cons _ x l,.cons _ y m,hs,i+1,h,h'=>by
  simp only [SameL] at hs
  exact hs.2.2.at i (by simpa [ExL.list] using h) (by simpa [ExL.list] using h')
theorem withPr_len (p:Pairs) {A B:List Str} (h:A.length=B.length):(withPr p A B).length=p.length+A.length:=by
 unfold withPr
 simp [List.length_zip,← h]; omega
theorem wt_mem {l:ExL}:∀ {p},p ∈ l.list→p.2.wt≤l.wt:=by
 intro p hp
 match l with
 | .nil f=>simp [ExL.list] at hp
 | .cons q x l =>
  simp only [ExL.list,List.mem_cons,ExL.wt] at hp ⊢
  rcases hp with rfl | hp
  ·exact Nat.le_add_right _ _
  ·exact Nat.le_trans (wt_mem hp) (Nat.le_add_left _ _)
theorem wtA_mem {l:ExL}:∀ {p},p ∈ l.list→(altH p).vs.length+p.2.wt≤l.wtA:=by
 intro p hp
 match l with
 | .nil f=>simp [ExL.list] at hp
 | .cons q x l =>
  simp only [ExL.list,List.mem_cons,ExL.wtA] at hp ⊢
  rcases hp with rfl | hp
  ·exact Nat.le_add_right _ _
  ·exact Nat.le_trans (wtA_mem hp) (Nat.le_add_left _ _)
noncomputable def f33at:Nat→Code
 | 0=>Tryz.f33.body.getD .skip
 | k+1=>cTl (f33at k)
def SameOK (c:Option Self) (x:Ex):Prop:=∀ (y:Ex) (p:Pairs),x.Ty→y.Ty→x.size≤1000000→y.size≤1000000→SameE p x y→p.length+x.wt≤1000000→∀ (st:St) (rx ry:List AV) (N:Nat),x.size+10000000000000000010≤N→pureL rx=true→pureL ry=true →
 ∀ (X:List Nat) (xs:List AV),RdsL X st xs [.rp (x.cells++rx),.rp (y.cells++ry),pairV p]→(Tw c N).call 33 xs st=some (.b true,st)
theorem SameOK.pure {c:Option Self} {x:Ex} (h:SameOK c x) {y:Ex} {p:Pairs} (h1:x.Ty) (h2:y.Ty) (h3:x.size≤1000000) (h4:y.size≤1000000) (h5:SameE p x y) (h6:p.length+x.wt≤1000000) (st:St) (rx ry:List AV) (N:Nat) (h7:x.size+10000000000000000010≤N) (h8:pureL rx=true) (h9:pureL ry=true) :
  (Tw c N).call 33 [.rp (x.cells++rx),.rp (y.cells++ry),pairV p] st=some (.b true,st) :=
 h y p h1 h2 h3 h4 h5 h6 st rx ry N h7 h8 h9 [] _ (.pure (by simp [pureL,pureV,pureL_append,Ex.cells_pure h1,Ex.cells_pure h2,h8,h9,pairV_pure]))
set_option maxHeartbeats 4000000 in
theorem same_call:∀ x,SameOK c x:=by
 refine Ex.ind fun k nm num ps b a l hb ha hl=>?_
 intro y p hT hTy' hs hsy hS hw st rx ry N hN hrx hry XX xs hxs
 obtain ⟨N,rfl⟩:∃ N',N=N'+1:=⟨N - 1,by omega⟩
 obtain ⟨k',nm',num',ps',b',a',l'⟩:=y
 refine body_v (X:=XX) rfl rfl (.inr (by decide)) hxs Tryz.func33 rfl (Nat.le_of_ble_eq_true rfl) rfl ?_
 have hsz:(Ex.mk k nm num ps b a l).size=1+b.size+a.size+l.size:=by simp only [Ex.size]
 have hsz2:(Ex.mk k' nm' num' ps' b' a' l').size=1+b'.size+a'.size+l'.size:=by simp only [Ex.size]
 have hwt:(Ex.mk k nm num ps b a l).wt=(txsOf ps).length+(b.len+b.wt)+(a.len+a.wt)+l.wtA:=by simp only [Ex.wt]
 simp only [Ex.Ty] at hT hTy'
 obtain ⟨-,hps,hTb,hTa,hTl⟩:=hT
 obtain ⟨-,hps',hTb',hTa',hTl'⟩:=hTy'
 unfold SameE at hS
 obtain ⟨⟨rfl,rfl,hpl,hbl',hal',hll',hnm⟩,hSa,hSb,hSl⟩:=hS
 have hbl:=b.len_le
 have hal:=a.len_le
 have hll:=l.len_le
 have lp:=fun st:St=>(isNm_sl hps).sLen (st:=st) sl36
 have lp':=fun st:St=>(isNm_sl hps').sLen (st:=st) sl36
 have lb:=fun st:St=>len_sl (st:=st) Tryz.underlying23 (b.slice_len 8) (b.slice_text 8)
 have la:=fun st:St=>len_sl (st:=st) Tryz.underlying37 (a.slice_len 7) (a.slice_text 7)
 have ll:=fun st:St=>len_sl (st:=st) Tryz.underlying38 (l.slice_len 11) (l.slice_text 11)
 have lb':=fun st:St=>len_sl (st:=st) Tryz.underlying23 (b'.slice_len 8) (b'.slice_text 8)
 have la':=fun st:St=>len_sl (st:=st) Tryz.underlying37 (a'.slice_len 7) (a'.slice_text 7)
 have ll':=fun st:St=>len_sl (st:=st) Tryz.underlying38 (l'.slice_len 11) (l'.slice_text 11)
 rw [← hpl] at lp'
 rw [← hbl'] at lb'
 rw [← hal'] at la'
 rw [← hll'] at ll'
 have P1:=fun st:St=>pairs_call (c:=c) (st:=st) p (isNm_sl hps) (isNm_sl hps') hpl (by omega) (N:=N) (by omega)
 obtain ⟨w1,u1,u2⟩:=binds_call (c:=c) (st:=st0) hTb (by omega) (N:=N) (by omega)
 obtain ⟨w2,v1,v2⟩:=binds_call (c:=c) (st:=st0) hTb' (by omega) (N:=N) (by omega)
 have hbn:b.names.length=b'.names.length:=by rw [names_len,names_len,hbl']
 have P2:=fun st:St=>pairs_call (c:=c) (st:=st) (withPr p (txsOf ps) (txsOf ps')) u2 v2 hbn (by rw [names_len]; omega) (N:=N) (by omega)
 have hql:(withPr (withPr p (txsOf ps) (txsOf ps')) b.names b'.names).length=p.length+(txsOf ps).length+b.len:=by
  rw [withPr_len _ hbn,withPr_len _ hpl,names_len]
 obtain ⟨q,hq⟩:∃ q,withPr (withPr p (txsOf ps) (txsOf ps')) b.names b'.names=q:=⟨_,rfl⟩
 rw [hq] at P2 hSa hSb hSl hql
 have AL:=fun st:St=>alike_call (c:=c) (st:=st) p nm nm' (N:=N) (by omega)
 have hcl:(Ex.mk k nm num ps b a l).cells++rx = .i .i64 k :: .s nm :: .i .i64 num :: ps :: b.slice 8 :: a.slice 7 :: l.slice 11 :: rx:=by simp [Ex.cells]
 have hcl':(Ex.mk k nm' num ps' b' a' l').cells++ry = .i .i64 k :: .s nm' :: .i .i64 num :: ps' :: b'.slice 8 :: a'.slice 7 :: l'.slice 11 :: ry:=by simp [Ex.cells]
 rw [hcl,hcl']
 unfold bodyR
 show Ret (endF Tryz.prog Tryz.f33.results.toList (evC (f33at 0) ⟨Tryz.prog,Tw c N,false,Tryz.f33.ntmps,N⟩ (tmpsOf [.rp (.i .i64 k :: .s nm :: .i .i64 num :: ps :: b.slice 8 :: a.slice 7 :: l.slice 11 :: rx),.rp (.i .i64 k :: .s nm' :: .i .i64 num :: ps' :: b'.slice 8 :: a'.slice 7 :: l'.slice 11 :: ry),pairV p] 0 .lf) st0)) _
 have st_:∀ (i:Nat) (t:Tr AV) (s:St) (t':Tr AV) (s':St),evC (f33at i) ⟨Tryz.prog,Tw c N,false,Tryz.f33.ntmps,N⟩ t s=thenC (evC (cHd (f33at i)) ⟨Tryz.prog,Tw c N,false,Tryz.f33.ntmps,N⟩ t s) (evC (f33at (i+1)) ⟨Tryz.prog,Tw c N,false,Tryz.f33.ntmps,N⟩)→evC (cHd (f33at i)) ⟨Tryz.prog,Tw c N,false,Tryz.f33.ntmps,N⟩ t s = .nx t' s'→evC (f33at i) ⟨Tryz.prog,Tw c N,false,Tryz.f33.ntmps,N⟩ t s=evC (f33at (i+1)) ⟨Tryz.prog,Tw c N,false,Tryz.f33.ntmps,N⟩ t' s':=fun i t s t' s' h1 h2=>by rw [h1,h2,thenC_nx]
 have a0:∃ t,evC (cHd (f33at 0)) ⟨Tryz.prog,Tw c N,false,Tryz.f33.ntmps,N⟩ (tmpsOf [.rp (.i .i64 k :: .s nm :: .i .i64 num :: ps :: b.slice 8 :: a.slice 7 :: l.slice 11 :: rx),.rp (.i .i64 k :: .s nm' :: .i .i64 num :: ps' :: b'.slice 8 :: a'.slice 7 :: l'.slice 11 :: ry),pairV p] 0 .lf) st0 = .nx t st0∧tget t 0 = .rp (.i .i64 k :: .s nm :: .i .i64 num :: ps :: b.slice 8 :: a.slice 7 :: l.slice 11 :: rx)∧tget t 1 = .rp (.i .i64 k :: .s nm' :: .i .i64 num :: ps' :: b'.slice 8 :: a'.slice 7 :: l'.slice 11 :: ry)∧tget t 2=pairV p:=by
  simp [f33at,cHd,Tryz.f33]
 obtain ⟨t0,a0,b0,b1,b2⟩:=a0
 rw [st_ 0 _ _ _ _ rfl a0]
 have a1:∃ t,evC (cHd (f33at 1)) ⟨Tryz.prog,Tw c N,false,Tryz.f33.ntmps,N⟩ t0 st0 = .nx t st0∧tget t 0=tget t0 0∧tget t 1=tget t0 1∧tget t 2=pairV p:=by
  simp [f33at,cHd,cTl,Tryz.f33,evC_draw]
  rw [drawC_nil (by kernel_rfl)]
  simp [b0,b1,b2,off40_0,off40_2,off40_3,off40_4,off40_5,off40_6,load_rp inf3 ag3,load_rp inf2 ag2,load_rp inf36 ag36,load_rp inf23 ag23,load_rp inf37 ag37,load_rp inf38 ag38,lp,lp',lb,la,ll,lb',la',ll']
 obtain ⟨t1,a1,c0,c1,b2'⟩:=a1
 rw [st_ 1 _ _ _ _ rfl a1]
 rw [b0] at c0
 rw [b1] at c1
 have a3:∃ t,evC (cHd (f33at 2)) ⟨Tryz.prog,Tw c N,false,Tryz.f33.ntmps,N⟩ t1 st0 = .nx t st0∧tget t 0=tget t1 0∧tget t 1=tget t1 1∧tget t 2=pairV p:=by
  by_cases hk:k=1
  ·rw [if_pos hk] at hnm
   rw [hnm] at AL
   simp [f33at,cHd,cTl,Tryz.f33,evC_draw]
   rw [drawC_nil (by kernel_rfl)]
   simp [c0,c1,b2',off40_0,off40_1,load_rp inf3 ag3,load_rp inf9 ag9,hk,callF_of Tryz.func55 rfl,AL]
  ·rw [if_neg hk] at hnm
   subst hnm
   simp [f33at,cHd,cTl,Tryz.f33,evC_draw]
   rw [drawC_nil (by kernel_rfl)]
   simp [c0,c1,b2',off40_0,off40_1,load_rp inf3 ag3,load_rp inf9 ag9,hk,str_ne]
 obtain ⟨t3,a3,d0,d1,d2⟩:=a3
 rw [st_ 2 _ _ _ _ rfl a3]
 rw [c0] at d0
 rw [c1] at d1
 have a5:∃ t,evC (cHd (f33at 3)) ⟨Tryz.prog,Tw c N,false,Tryz.f33.ntmps,N⟩ t3 st0 = .nx t st0∧tget t 0=tget t3 0∧tget t 1=tget t3 1∧tget t 2=pairV q:=by
  simp [f33at,cHd,cTl,Tryz.f33,evC_draw]
  rw [drawC_eq (fl:=[(13,0),(18,0),(18,10)])]
  ·simp [d0,d1,d2,off40_3,off40_4,load_rp inf36 ag36,load_rp inf23 ag23,callF_of Tryz.func56 rfl,callF_of Tryz.func23 rfl,P1,P2,u1,v1]
  ·kernel_rfl
  ·intro R' hR'
   simp [d0,d1,d2,off40_3,off40_4,load_rp inf36 ag36,load_rp inf23 ag23,callF_of Tryz.func56 rfl,callF_of Tryz.func23 rfl,P1,P2,u1,v1] at hR'
   subst hR'
   simp only [List.all_cons,List.all_nil,Bool.and_true,Bool.and_eq_true]
   refine ⟨recheck_eq rfl rfl rfl (s:=st0) ?_,recheck_eq rfl rfl rfl (s:=st0) ?_,recheck_eq rfl rfl rfl (s:=st0) ?_⟩ <;> simp [load_rp inf23 ag23]
 obtain ⟨t5,a5,e0,e1,e2⟩:=a5
 rw [st_ 3 _ _ _ _ rfl a5]
 rw [d0] at e0
 rw [d1] at e1
 have loopA:∃ t s,evC (cHd (f33at 4)) ⟨Tryz.prog,Tw c N,false,Tryz.f33.ntmps,N⟩ t5 st0 = .nx t s∧tget t 0=tget t5 0∧tget t 1=tget t5 1∧tget t 2=pairV q:=by
  simp [f33at,cHd,cTl,Tryz.f33,e0,off40_5,load_rp inf37 ag37,la,evC_loop]
  generalize hL:loopC _ _ _ _=L
  obtain ⟨t',s',rfl,z0,z1,z2⟩:=loop_use hL 0 a.list.length
   (fun i t s=>tget t 0 = .rp (.i .i64 k :: .s nm :: .i .i64 num :: ps :: b.slice 8 :: a.slice 7 :: l.slice 11 :: rx)∧tget t 1 = .rp (.i .i64 k :: .s nm' :: .i .i64 num :: ps' :: b'.slice 8 :: a'.slice 7 :: l'.slice 11 :: ry)∧tget t 2=pairV q∧tget t 145 = .i .i64 (a.len:Int)∧tget t 146 = .i .i64 (i:Int))
   (fun t s=>tget t 0 = .rp (.i .i64 k :: .s nm :: .i .i64 num :: ps :: b.slice 8 :: a.slice 7 :: l.slice 11 :: rx)∧tget t 1 = .rp (.i .i64 k :: .s nm' :: .i .i64 num :: ps' :: b'.slice 8 :: a'.slice 7 :: l'.slice 11 :: ry)∧tget t 2=pairV q) (by rw [← ExL.len_eq]; omega)
   ⟨by simp [e0],by simp [e1],by simp [e2],by simp,by simp⟩
   (by
    rintro i t s hi ⟨i0,i1,i2,il,ii⟩
    clear hL
    have hil:i < a.len:=by rw [ExL.len_eq]; exact hi
    have hi':i < a'.list.length:=by rw [← ExL.len_eq]; omega
    have hil':i < a'.len:=by omega
    have e5:(i:Int) < (a.len:Int):=by omega
    have e7:wr .i64 ((i:Int)+1)=((i+1:Nat):Int):=by rw [wr_in (by omega) (by omega)]; rfl
    obtain ⟨r1,r2,r3⟩:=part_at hTa.pre (show preLen 0+7=7 from rfl) hi
    have ix:=index_rs (P:=Tryz.prog) Tryz.underlying37 inf40 sz40 a.flat a.len i hil
    rw [← ExL.slice_rs hil,r2,List.eq_nil_of_length_eq_zero r3,List.nil_append] at ix
    obtain ⟨r1',r2',r3'⟩:=part_at hTa'.pre (show preLen 0+7=7 from rfl) hi'
    have ix':=index_rs (P:=Tryz.prog) Tryz.underlying37 inf40 sz40 a'.flat a'.len i hil'
    rw [← ExL.slice_rs hil',r2',List.eq_nil_of_length_eq_zero r3',List.nil_append] at ix'
    have hmem:=List.getElem_mem hi
    have hmem':=List.getElem_mem hi'
    have hTi:=ExL.ty_list hTa _ hmem
    have hTi':=ExL.ty_list hTa' _ hmem'
    have q1:=ExL.size_mem hmem
    have q2:=ExL.size_mem hmem'
    have q3:=wt_mem hmem
    have sm:=(ha _ hmem).pure (p:=q) hTi.2 hTi'.2 (by omega) (by omega) (hSa.at i hi hi') (by omega) s r1 r1' N (by omega) (pure_tail hTa hi r2 r3) (pure_tail hTa' hi' r2' r3')
    simp [il,ii,e5,evC_draw]
    rw [drawC_nil (by kernel_rfl)]
    simp [i0,i1,i2,ii,e7,off40_5,load_rp inf37 ag37,ix,ix',callF_of Tryz.func33 rfl,sm,il])
   (by
    rintro t s ⟨i0,i1,i2,il,ii⟩
    clear hL
    simp [il,ii,ExL.len_eq]
    exact ⟨i0,i1,i2⟩)
  clear hL
  exact ⟨t',⟨s',by simp⟩,z0,by rw [z1,e1],z2⟩
 obtain ⟨t6,s6,a6,f0,f1,f2⟩:=loopA
 rw [st_ 4 _ _ _ _ rfl a6]
 rw [e0] at f0
 rw [e1] at f1
 have loopB:∃ t s,evC (cHd (f33at 5)) ⟨Tryz.prog,Tw c N,false,Tryz.f33.ntmps,N⟩ t6 s6 = .nx t s∧tget t 0=tget t6 0∧tget t 1=tget t6 1∧tget t 2=pairV q:=by
  simp [f33at,cHd,cTl,Tryz.f33,f0,off40_4,load_rp inf23 ag23,lb,evC_loop]
  generalize hL:loopC _ _ _ _=L
  obtain ⟨t',s',rfl,z0,z1,z2⟩:=loop_use hL 2 b.list.length
   (fun i t s=>tget t 0 = .rp (.i .i64 k :: .s nm :: .i .i64 num :: ps :: b.slice 8 :: a.slice 7 :: l.slice 11 :: rx)∧tget t 1 = .rp (.i .i64 k :: .s nm' :: .i .i64 num :: ps' :: b'.slice 8 :: a'.slice 7 :: l'.slice 11 :: ry)∧tget t 2=pairV q∧tget t 169 = .i .i64 (b.len:Int)∧tget t 170 = .i .i64 (i:Int))
   (fun t s=>tget t 0 = .rp (.i .i64 k :: .s nm :: .i .i64 num :: ps :: b.slice 8 :: a.slice 7 :: l.slice 11 :: rx)∧tget t 1 = .rp (.i .i64 k :: .s nm' :: .i .i64 num :: ps' :: b'.slice 8 :: a'.slice 7 :: l'.slice 11 :: ry)∧tget t 2=pairV q) (by rw [← ExL.len_eq]; omega)
   ⟨by simp [f0],by simp [f1],by simp [f2],by simp,by simp⟩
   (by
    rintro i t s hi ⟨i0,i1,i2,il,ii⟩
    clear hL
    have hil:i < b.len:=by rw [ExL.len_eq]; exact hi
    have hi':i < b'.list.length:=by rw [← ExL.len_eq]; omega
    have hil':i < b'.len:=by omega
    have e5:(i:Int) < (b.len:Int):=by omega
    have e7:wr .i64 ((i:Int)+1)=((i+1:Nat):Int):=by rw [wr_in (by omega) (by omega)]; rfl
    obtain ⟨r1,r2,r3⟩:=part_at hTb.pre (show preLen 1+7=8 from rfl) hi
    have ix:=index_rs (P:=Tryz.prog) Tryz.underlying23 inf42 sz42 b.flat b.len i hil
    rw [← ExL.slice_rs hil,r2] at ix
    obtain ⟨r1',r2',r3'⟩:=part_at hTb'.pre (show preLen 1+7=8 from rfl) hi'
    have ix':=index_rs (P:=Tryz.prog) Tryz.underlying23 inf42 sz42 b'.flat b'.len i hil'
    rw [← ExL.slice_rs hil',r2'] at ix'
    have hmem:=List.getElem_mem hi
    have hmem':=List.getElem_mem hi'
    have hTi:=ExL.ty_list hTb _ hmem
    have hTi':=ExL.ty_list hTb' _ hmem'
    have q1:=ExL.size_mem hmem
    have q2:=ExL.size_mem hmem'
    have q3:=wt_mem hmem
    have hd:(b.list[i].1++(b.list[i].2.cells++r1)).drop 1=b.list[i].2.cells++r1:=by
     have r3:b.list[i].1.length=1:=r3
     rw [List.drop_append,r3]; simp [r3,List.drop_eq_nil_of_le]
    have hd':(b'.list[i].1++(b'.list[i].2.cells++r1')).drop 1=b'.list[i].2.cells++r1':=by
     have r3':b'.list[i].1.length=1:=r3'
     rw [List.drop_append,r3']; simp [r3',List.drop_eq_nil_of_le]
    have sm:=(hb _ hmem).pure (p:=q) hTi.2 hTi'.2 (by omega) (by omega) (hSb.at i hi hi') (by omega) s r1 r1' N (by omega) (pure_tail hTb hi r2 r3) (pure_tail hTb' hi' r2' r3')
    simp [il,ii,e5,evC_draw]
    rw [drawC_nil (by kernel_rfl)]
    simp [i0,i1,i2,ii,e7,off40_4,off42_1,load_rp inf23 ag23,ix,ix',hd,hd',callF_of Tryz.func33 rfl,sm,il])
   (by
    rintro t s ⟨i0,i1,i2,il,ii⟩
    clear hL
    simp [il,ii,ExL.len_eq]
    exact ⟨i0,i1,i2⟩)
  clear hL
  exact ⟨t',⟨s',by simp⟩,z0,by rw [z1,f1],z2⟩
 obtain ⟨t7,s7,a7,g0,g1,g2⟩:=loopB
 rw [st_ 5 _ _ _ _ rfl a7]
 rw [f0] at g0
 rw [f1] at g1
 have loopL:∃ t s,evC (cHd (f33at 6)) ⟨Tryz.prog,Tw c N,false,Tryz.f33.ntmps,N⟩ t7 s7 = .nx t s:=by
  simp [f33at,cHd,cTl,Tryz.f33,g0,off40_6,load_rp inf38 ag38,ll,evC_loop]
  generalize hL:loopC _ _ _ _=L
  obtain ⟨t',s',rfl,-⟩:=loop_use hL 4 l.list.length
   (fun i t s=>tget t 0 = .rp (.i .i64 k :: .s nm :: .i .i64 num :: ps :: b.slice 8 :: a.slice 7 :: l.slice 11 :: rx)∧tget t 1 = .rp (.i .i64 k :: .s nm' :: .i .i64 num :: ps' :: b'.slice 8 :: a'.slice 7 :: l'.slice 11 :: ry)∧tget t 2=pairV q∧tget t 195 = .i .i64 (l.len:Int)∧tget t 196 = .i .i64 (i:Int))
   (fun t s=>True) (by rw [← ExL.len_eq]; omega)
   ⟨by simp [g0],by simp [g1],by simp [g2],by simp,by simp⟩
   (by
    rintro i t s hi ⟨i0,i1,i2,il,ii⟩
    clear hL
    have hil:i < l.len:=by rw [ExL.len_eq]; exact hi
    have hi':i < l'.list.length:=by rw [← ExL.len_eq]; omega
    have hil':i < l'.len:=by omega
    have e5:(i:Int) < (l.len:Int):=by omega
    have e7:wr .i64 ((i:Int)+1)=((i+1:Nat):Int):=by rw [wr_in (by omega) (by omega)]; rfl
    obtain ⟨r1,r2,r3⟩:=part_at hTl.pre (show preLen 4+7=11 from rfl) hi
    have ix:=index_rs (P:=Tryz.prog) Tryz.underlying38 inf80 sz80 l.flat l.len i hil
    rw [← ExL.slice_rs hil,r2] at ix
    obtain ⟨r1',r2',r3'⟩:=part_at hTl'.pre (show preLen 4+7=11 from rfl) hi'
    have ix':=index_rs (P:=Tryz.prog) Tryz.underlying38 inf80 sz80 l'.flat l'.len i hil'
    rw [← ExL.slice_rs hil',r2'] at ix'
    have hmem:=List.getElem_mem hi
    have hmem':=List.getElem_mem hi'
    have hTi:=ExL.ty_list hTl _ hmem
    have hTi':=ExL.ty_list hTl' _ hmem'
    have q1:=ExL.size_mem hmem
    have q2:=ExL.size_mem hmem'
    have q3:=wtA_mem hmem
    obtain ⟨⟨hk1,hk2,hk3,hk4⟩,hSi⟩:=hSl.at i hi hi'
    obtain ⟨vs,p1,p2,p3⟩:=altH_ty hTi.1
    obtain ⟨vs',p1',p2',p3'⟩:=altH_ty hTi'.1
    obtain ⟨H,hH⟩:∃ H,altH l.list[i]=H:=⟨_,rfl⟩
    obtain ⟨H',hH'⟩:∃ H',altH l'.list[i]=H':=⟨_,rfl⟩
    rw [hH] at p1 p3 hk1 hk2 hk3 hk4 hSi q3
    rw [hH'] at p1' p3' hk1 hk2 hk3 hk4 hSi
    have hwl:=withPr_len q hk4
    have lv:=fun st:St=>(isNm_sl p2).sLen (st:=st) sl36
    have lv':=fun st:St=>(isNm_sl p2').sLen (st:=st) sl36
    rw [← p3] at lv
    rw [← p3',← hk4] at lv'
    have PV:=fun st:St=>pairs_call (c:=c) (st:=st) q (A:=H.vs) (B:=H'.vs) (by rw [p3]; exact isNm_sl p2) (by rw [p3']; exact isNm_sl p2') hk4 (by omega) (N:=N) (by omega)
    have sm:=fun s:St=>(hl _ hmem).pure (p:=withPr q H.vs H'.vs) hTi.2 hTi'.2 (by omega) (by omega) hSi (by omega) s r1 r1' N (by omega) (pure_tail hTl hi r2 r3) (pure_tail hTl' hi' r2' r3')
    rw [p1] at ix
    rw [p1'] at ix'
    simp [il,ii,e5,evC_draw]
    rw [drawC_nil (by kernel_rfl)]
    simp [i0,i1,off40_6,load_rp inf38 ag38,ix,ix',evC_draw]
    rw [drawC_nil (by kernel_rfl)]
    simp [i0,i1,i2,ii,e7,off80_0,off80_1,off80_2,off80_3,off80_4,load_rp inf3 ag3,load_rp inf9 ag9,load_rp inf2 ag2,load_rp inf36 ag36,lv,lv',hk1,hk2,hk3,str_ne,callF_of Tryz.func56 rfl,PV,callF_of Tryz.func33 rfl,sm,il])
   (by
    rintro t s ⟨i0,i1,i2,il,ii⟩
    clear hL
    simp [il,ii,ExL.len_eq])
  clear hL
  exact ⟨t',s',by simp⟩
 obtain ⟨t8,s8,a8⟩:=loopL
 rw [st_ 6 _ _ _ _ rfl a8]
 exact ⟨s8,by simp [f33at,cTl,Tryz.f33,resOf_eq,pmapO]⟩
end
end Go.Proofs.YtbemeikjepjhoaaGreatDoor
namespace Go.Proofs.YtbemeikjepjhoaaGreatDoor
open Go.Ev
set_option maxRecDepth 100000
noncomputable section
variable {c : Option Self} {st : St}
theorem rds_ptrO {X:List Nat} {l l':List AV} {o r g:Nat} {al:List Nat} (hc:st.ce r=some (l,g,al)) (h1:r < st.next) (h2:g < st.next) (h3:r ∉ X) (h4:g ∉ X) (h:RdsL X st (l.drop o) l'):Rds X st (.p r o) (.rp l'):=by
 obtain ⟨d,h⟩:=h
 refine ⟨d+1,?_⟩
 unfold rdV
 rw [if_neg (by simp [pureV])]
 simp only [ceX_of hc h1 h2 h3 h4,h]
theorem equalC_call {cv:AV} {ds:List ConD} (hv:IsCons cv ds) (hl:ds.length≤1000000) {N:Nat} (hN:2000000≤N):(Tw c N).call 30 [cv,cv] st=some (.b true,st):=by
 obtain ⟨N,rfl⟩:∃ N',N=N'+1:=⟨N - 1,by omega⟩
 refine body_v (X:=[]) rfl rfl (.inr (by decide)) (.pure (by simp [pureL,hv.pure])) Tryz.func30 rfl (Nat.le_of_ble_eq_true rfl) rfl ?_
 unfold bodyR
 have ln:=fun st:St=>cons_len (st:=st) hv
 simp [Tryz.f30,ln,evC_loop]
 generalize hL:loopC _ _ _ _=L
 obtain ⟨t1,s1,rfl,-⟩:=loop_use hL 0 ds.length (fun i t _=>tget t 0=cv∧tget t 1=cv∧tget t 12 = .i .i64 (ds.length:Int)∧tget t 13 = .i .i64 (i:Int)) (fun _ _=>True) (by omega)
  ⟨by simp,by simp,by simp,by simp⟩
  (by
   rintro i t st hi ⟨i0,i1,i7,i8⟩
   clear hL
   have e3:(i:Int) < (ds.length:Int):=by omega
   have e4:wr .i64 ((i:Int)+1)=((i+1:Nat):Int):=by rw [wr_in (by omega) (by omega)]; rfl
   obtain ⟨r,ix⟩:=con_at hv hi
   have ld:=fun st:St=>con_load (st:=st) ds[i] r
   simp [i7,i8,e3,evC_draw]
   rw [drawC_nil (by kernel_rfl)]
   simp [i0,i1,i7,i8,e4,ix,ld,con_ne,conEq_self])
  (by
   rintro t st ⟨i0,i1,i7,i8⟩
   clear hL
   simp [i7,i8])
 clear hL
 simp [resOf_eq,pmapO]
theorem bind_same {c1 c2:List AV} {x y:Ex} {nm:Str} (h1:c1 = .s nm :: x.cells) (h2:c2 = .s nm :: y.cells) (hx:x.Ty) (hy:y.Ty) (hs:x.size≤1000000) (hs':y.size≤1000000) (hS:SameE [] x y) (hw:x.wt≤1000000) {N:Nat} (hN:x.size+10000000000000000020≤N) :
  (Tw c N).call 32 [.ag c1,.ag c2] st=some (.b true,st):=by
 obtain ⟨N,rfl⟩:∃ N',N=N'+1:=⟨N - 1,by omega⟩
 have p1:pureL c1=true:=by rw [h1]; simp [pureL,pureV,Ex.cells_pure hx]
 have p2:pureL c2=true:=by rw [h2]; simp [pureL,pureV,Ex.cells_pure hy]
 refine body_v (X:=[]) rfl rfl (.inr (by decide)) (.pure (by simp [pureL,pureV,p1,p2])) Tryz.func32 rfl (Nat.le_of_ble_eq_true rfl) rfl ?_
 unfold bodyR
 have k1:=newCe_ce (st:=st0) c1
 have k0:st0.next < (st0.newCe c1).next:=Nat.lt_succ_self _
 obtain ⟨s1,hs1⟩:∃ s,st0.newCe c1=s:=⟨_,rfl⟩
 rw [hs1] at k1 k0
 have k2:=newCe_ce (st:=s1) c2
 have kk:=Kp.newCe (st:=s1) [] [] c2
 have k3:s1.next < (s1.newCe c2).next:=Nat.lt_succ_self _
 obtain ⟨s2,hs2⟩:∃ s,s1.newCe c2=s:=⟨_,rfl⟩
 rw [hs2] at k2 kk k3
 have k1':=kk.ce k1 k0 k0 (by simp) (by simp)
 have r1:rd s2 st0.next 0 1=some [.s nm]:=by rw [rd_of k1',h1]; rfl
 have r2:rd s2 s1.next 0 1=some [.s nm]:=by rw [rd_of k2,h2]; rfl
 have d1:Rds [] s2 (.p st0.next 1) (.rp (x.cells++[])):=by
  have:=rds_ptrO (o:=1) (X:=[]) k1' (Nat.lt_trans k0 (Nat.lt_of_le_of_lt (Nat.le_refl _) k3)) (Nat.lt_trans k0 k3) (by simp) (by simp) (l':=x.cells) (by rw [h1]; exact .pure (Ex.cells_pure hx))
  simpa using this
 have d2:Rds [] s2 (.p s1.next 1) (.rp (y.cells++[])):=by
  have:=rds_ptrO (o:=1) (X:=[]) k2 k3 k3 (by simp) (by simp) (l':=y.cells) (by rw [h2]; exact .pure (Ex.cells_pure hy))
  simpa using this
 have sm:=same_call (c:=c) x y [] hx hy hs hs' hS (by simpa using hw) s2 [] [] N (by omega) rfl rfl [] [.p st0.next 1,.p s1.next 1,.pn] (.cons d1 (.cons d2 (.cons (.pure rfl) .nil)))
 simp [Tryz.f32,hs1,hs2,off42_0,off42_1,load_p inf9 ag9,r1,r2,str_eq,callF_of Tryz.func33 rfl,sm,resOf_eq,pmapO]
theorem opH_callT {S:Self} {t:Tr AV} {x:Operand} {f:FuncId} {xs:Array Operand} {ts:Array TypeId} (h:evO t x = .f (.func f) [] []):opH (.call { callee:=.value x,args:=xs,argTypes:=ts }) Tryz.prog S t st=callF Tryz.prog S f (args t xs.toList) st:=by
 show callV Tryz.prog S st (args t xs.toList) (evO t x)=_
 rw [h]
 simp [callV]
set_option maxHeartbeats 1000000 in
theorem binds_same {b b':ExL} (hb:b.Ty 1) (hb':b'.Ty 1) (hs:b.size≤1000000) (hs':b'.size≤1000000) (hn:b.names=b'.names) (hS:SameA [] b b') (hw:b.wt≤1000000) {N:Nat} (hN:b.size+10000000000000000030≤N) :
  (Tw c N).call 31 [b.slice 8,b'.slice 8,.f (.func 32) [] []] st=some (.b true,st):=by
 obtain ⟨N,rfl⟩:∃ N',N=N'+1:=⟨N - 1,by omega⟩
 refine body_v (X:=[]) rfl rfl (.inr (by decide)) (.pure (by simp [pureL,ExL.slice_pure hb 8,ExL.slice_pure hb' 8]; rfl)) Tryz.func31 rfl (Nat.le_of_ble_eq_true rfl) rfl ?_
 unfold bodyR
 have hbl:=b.len_le
 have hll:b.len=b'.len:=by rw [← names_len,← names_len,hn]
 have lb:=fun st:St=>len_sl (st:=st) Tryz.underlying23 (b.slice_len 8) (b.slice_text 8)
 have lb':=fun st:St=>len_sl (st:=st) Tryz.underlying23 (b'.slice_len 8) (b'.slice_text 8)
 rw [← hll] at lb'
 simp [Tryz.f31,lb,lb',evC_loop]
 generalize hL:loopC _ _ _ _=L
 obtain ⟨t1,s1,rfl,-⟩:=loop_use hL 0 b.list.length (fun i t _=>tget t 1=b'.slice 8∧tget t 2 = .f (.func 32) [] []∧tget t 15=b.slice 8∧tget t 16 = .i .i64 (b.len:Int)∧tget t 17 = .i .i64 (i:Int)) (fun _ _=>True) (by rw [← ExL.len_eq]; omega)
  ⟨by simp,by simp,by simp,by simp,by simp⟩
  (by
   rintro i t s hi ⟨i1,i2,i15,i16,i17⟩
   clear hL
   have hil:i < b.len:=by rw [ExL.len_eq]; exact hi
   have hi':i < b'.list.length:=by rw [← ExL.len_eq]; omega
   have hil':i < b'.len:=by omega
   have e3:(i:Int) < (b.len:Int):=by omega
   have e4:wr .i64 ((i:Int)+1)=((i+1:Nat):Int):=by rw [wr_in (by omega) (by omega)]; rfl
   obtain ⟨r1,r2,r3⟩:=part_at hb.pre (show preLen 1+7=8 from rfl) hi
   have ix:=index_rs (P:=Tryz.prog) Tryz.underlying23 inf42 sz42 b.flat b.len i hil
   rw [← ExL.slice_rs hil,r2,← List.append_assoc] at ix
   obtain ⟨r1',r2',r3'⟩:=part_at hb'.pre (show preLen 1+7=8 from rfl) hi'
   have ix':=index_rs (P:=Tryz.prog) Tryz.underlying23 inf42 sz42 b'.flat b'.len i hil'
   rw [← ExL.slice_rs hil',r2',← List.append_assoc] at ix'
   have hmem:=List.getElem_mem hi
   have hmem':=List.getElem_mem hi'
   have hT:=ExL.ty_list hb _ hmem
   have hT':=ExL.ty_list hb' _ hmem'
   have q1:=ExL.size_mem hmem
   have q2:=ExL.size_mem hmem'
   have q3:=wt_mem hmem
   have hp:=pre1 hT.1
   have hp':=pre1 hT'.1
   have hin:i < b.names.length:=by rw [names_len]; exact hil
   have hin':i < b'.names.length:=by rw [names_len]; exact hil'
   have e1:txOf (b.list[i].1.headD .un)=b.names[i]:=by simp [ExL.names,bname]
   have e2:txOf (b'.list[i].1.headD .un)=b.names[i]:=by simp [hn]; simp [ExL.names,bname]
   rw [e1] at hp
   rw [e2] at hp'
   have hce:(b.list[i].1++b.list[i].2.cells).length=8:=by rw [List.length_append,r3,Ex.cells_len]; rfl
   have hsc:allSc (b.list[i].1++b.list[i].2.cells)=true:=allSc_append hT.1.sc (Ex.cells_sc hT.2.wf)
   have ld:=fun st:St=>load_ms (st:=st) (r:=r1) inf42 ag42 sz42 hce
   have hce':(b'.list[i].1++b'.list[i].2.cells).length=8:=by rw [List.length_append,r3',Ex.cells_len]; rfl
   have hsc':allSc (b'.list[i].1++b'.list[i].2.cells)=true:=allSc_append hT'.1.sc (Ex.cells_sc hT'.2.wf)
   have ld':=fun st:St=>load_ms (st:=st) (r:=r1') inf42 ag42 sz42 hce'
   have sm:=fun s:St=>bind_same (c:=c) (st:=s) (c1:=b.list[i].1++b.list[i].2.cells) (c2:=b'.list[i].1++b'.list[i].2.cells) (nm:=b.names[i]) (x:=b.list[i].2) (y:=b'.list[i].2) (by rw [hp]; rfl) (by rw [hp']; rfl) hT.2 hT'.2 (by omega) (by omega) (hS.at i hi hi') (by omega) (N:=N) (by omega)
   have full:∀ {l:List AV},l.length=8→cut l 0 8=some l:=fun {l} h=>by
    have:=takeN_app l []
    rw [h,List.append_nil] at this
    simpa using this
   have fl1:=full hce
   have fl2:=full hce'
   generalize b.list[i].1++b.list[i].2.cells=c1 at *
   generalize b'.list[i].1++b'.list[i].2.cells=c2 at *
   obtain ⟨s2,u1,u2,u3,u4⟩:=alloc_store (s:=s) (z:=zL42) hce hsc
   obtain ⟨s3,v1,v2,v3,v4⟩:=alloc_store (s:=s2) (z:=zL42) hce' hsc'
   have u2':=v3.ce u2 u4 u4 (by simp) (by simp)
   have rx:rd s3 s.next 0 8=some c1:=by rw [rd_of u2',fl1]
   have ry:rd s3 s2.next 0 8=some c2:=by rw [rd_of v2,fl2]
   have zz:zeroC Tryz.prog 42=some zL42:=zC42
   have ct:=fun (t:Tr AV) (st:St) (xs:Array Operand) (ts:Array TypeId) (h:evO t (.tmp 26) = .f (.func 32) [] [])=>opH_callT (S:=Tw c N) (st:=st) (xs:=xs) (ts:=ts) h
   simp [i1,i2,i15,i16,i17,e3,e4,ix,ix',ld,ld',opH_alloc,zz,store_ag inf42 sz42,hce,hce',u1,v1,load_ag inf42 ag42,sz42,rx,ry,callF_of Tryz.func32 rfl,sm])
  (by
   rintro t s ⟨i1,i2,i15,i16,i17⟩
   clear hL
   simp [i16,i17,ExL.len_eq])
 clear hL
 simp [resOf_eq,pmapO]
theorem sameProg_call {cv:AV} {ds:List ConD} (hv:IsCons cv ds) (hl:ds.length≤1000000) {b b':ExL} (hb:b.Ty 1) (hb':b'.Ty 1) (hs:b.size≤1000000) (hs':b'.size≤1000000) (hf:fitsP b=true) (hf':fitsP b'=true) (hn:b.names=b'.names) (hS:SameA [] b b') (hw:b.wt≤1000000) {N:Nat} (hN:b.size+b'.size+10000000000000000040≤N) :
  (Tw c N).call 9 [.ag [cv,b.slice 8],.ag [cv,b'.slice 8]] st=some (.b true,st):=by
 obtain ⟨N,rfl⟩:∃ N',N=N'+1:=⟨N - 1,by omega⟩
 have hcs:cv.cells=some [cv]∧isSc cv=true∧pureV cv=true:=⟨by rcases hv.1 with ⟨rfl,-⟩ | rfl <;> simp,by rcases hv.1 with ⟨rfl,-⟩ | rfl <;> rfl,hv.pure⟩
 refine body_v (X:=[]) rfl rfl (.inr (by decide)) (.pure (by simp [pureL,pureV,hv.pure,ExL.slice_pure hb 8,ExL.slice_pure hb' 8])) Tryz.func9 rfl (Nat.le_of_ble_eq_true rfl) rfl ?_
 unfold bodyR
 have k1:=newCe_ce (st:=st0) [cv,b.slice 8]
 have k0:st0.next < (st0.newCe [cv,b.slice 8]).next:=Nat.lt_succ_self _
 obtain ⟨s1,hs1⟩:∃ s,st0.newCe [cv,b.slice 8]=s:=⟨_,rfl⟩
 rw [hs1] at k1 k0
 have k2:=newCe_ce (st:=s1) [cv,b'.slice 8]
 have kk:=Kp.newCe (st:=s1) [] [] [cv,b'.slice 8]
 obtain ⟨s2,hs2⟩:∃ s,s1.newCe [cv,b'.slice 8]=s:=⟨_,rfl⟩
 rw [hs2] at k2 kk
 have k1':=kk.ce k1 k0 k0 (by simp) (by simp)
 have a1:rd s2 st0.next 0 2=some [cv,b.slice 8]:=by rw [rd_of k1']; rfl
 have a2:rd s2 st0.next 0 1=some [cv]:=by rw [rd_of k1']; rfl
 have a3:rd s2 st0.next 1 1=some [b.slice 8]:=by rw [rd_of k1']; rfl
 have b1:rd s2 s1.next 0 2=some [cv,b'.slice 8]:=by rw [rd_of k2]; rfl
 have b2:rd s2 s1.next 0 1=some [cv]:=by rw [rd_of k2]; rfl
 have b3:rd s2 s1.next 1 1=some [b'.slice 8]:=by rw [rd_of k2]; rfl
 have l1:=fun st:St=>long_call (c:=c) (st:=st) hcs.2.2 hcs.2.1 hb hs (N:=N) (by omega)
 have l2:=fun st:St=>long_call (c:=c) (st:=st) hcs.2.2 hcs.2.1 hb' hs' (N:=N) (by omega)
 rw [hf] at l1
 rw [hf'] at l2
 have ec:=fun st:St=>equalC_call (c:=c) (st:=st) hv hl (N:=N) (by omega)
 have bs:=fun st:St=>binds_same (c:=c) (st:=st) hb hb' hs hs' hn hS hw (N:=N) (by omega)
 simp [Tryz.f9,hs1,hs2,off25_0,off25_1,load_ag inf25 ag25,sz25,load_p inf22 ag22,load_p inf23 ag23,a1,a2,a3,b1,b2,b3,callF_of Tryz.func19 rfl,callF_of Tryz.func30 rfl,callF_of Tryz.func31 rfl,l1,l2,ec,bs,resOf_eq,pmapO]
end
end Go.Proofs.YtbemeikjepjhoaaGreatDoor
