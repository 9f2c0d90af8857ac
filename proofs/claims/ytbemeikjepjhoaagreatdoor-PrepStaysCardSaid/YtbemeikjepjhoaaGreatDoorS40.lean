/-
  New names for some: what with answers. · The preparation of an expression: structs that are built; what is kept along the way. · The preparation of an expression: its head.
-/
import Derived.Test.YtbemeikjepjhoaaGreatDoorS39
namespace Go.Proofs.YtbemeikjepjhoaaGreatDoor
open Go.Ev
set_option maxRecDepth 100000
noncomputable section
variable {c : Option Self} {st : St}
theorem shut_ce {s:St} {n r g:Nat} {l:List AV} {al:List Nat} (h:s.ce r=some (l,g,al)) (hg:g < n):(s.shut n).ce r=some (l,g,al):=by
 obtain ⟨h0,h1,h2,h3⟩:=St.ce_spec h
 unfold St.ce
 rw [shut_get,h3]
 simp only [shut_low hg,h1,h2]
theorem MpF.shut {s:St} {n r:Nat} {f:Str→Option AV} (h:MpF s r f):MpF (s.shut n) r f:=h
theorem Mk.shut {s:St} {mr tr n k:Nat} {T:List Str} (h:Mk s mr tr T k) (hn:mr < n):Mk (s.shut n) mr tr T k:=by
 obtain ⟨al,hc⟩:=h.ce
 exact ⟨⟨al,shut_ce hc hn⟩,h.mrl,h.trl,h.ne,h.mp,h.tab,h.z1,h.z2⟩
def ScV (st:St) (mr tr:Nat) (sv:AV) (S:Sco):Prop:=(sv = .mn∧∀ x,S x=none)∨∃ r,sv = .m r∧MpF st r (fun x=>(S x).map .s)∧r < st.next∧r≠mr∧r≠tr∧r≠0
theorem ScV.keep {mr tr:Nat} {sv:AV} {S:Sco} {A B:List Nat} {st':St} (h:ScV st mr tr sv S) (k:Kp A B st st') (hA:∀ x,x ∈ A→x=mr∨x=tr∨st.next≤x):ScV st' mr tr sv S:=by
 rcases h with h | ⟨r,h1,h2,h3,h4,h5,h6⟩
 ·exact .inl h
 ·refine .inr ⟨r,h1,h2.keep k h3 (fun hh=>?_),Nat.lt_of_lt_of_le h3 k.next,h4,h5,h6⟩
  rcases hA _ hh with h | h | h
  ·exact h4 h
  ·exact h5 h
  ·omega
theorem ScV.cells {mr tr:Nat} {sv:AV} {S:Sco} (h:ScV st mr tr sv S):sv.cells=some [sv]∧isSc sv=true:=by
 rcases h with ⟨rfl,-⟩ | ⟨r,rfl,-⟩ <;> simp
theorem mp82:MpTy Tryz.prog 82 9 (.s []):=⟨⟨9,Tryz.underlying82,Tryz.underlying9⟩,by kernel_rfl⟩
theorem map_nil {P:Program} {ty k e:TypeId} {c:Bool} (h:P.underlying ty=some (.map k e)):Go.Ev.binOp P ty c .eql .mn .mn=some (.b true):=by
 show eqOp P ty c .eql .mn .mn=_
 simp [eqOp,eqV,eqT1,h,eqNil,AV.nilM,orElse]
theorem map_eql {P:Program} {ty k e:TypeId} {c:Bool} {r:Nat} (h:P.underlying ty=some (.map k e)):Go.Ev.binOp P ty c .eql (.m r) .mn=some (.b false):=by
 show eqOp P ty c .eql (.m r) .mn=_
 simp [eqOp,eqV,eqT1,h,eqNil,AV.nilM,orElse]
@[simp] theorem evO_mn (t:Tr AV):evO t (.const (.map none)) = .mn:=rfl
theorem withN_len (T:List Str):∀ (l:List Str) (S:Sco) (n:Nat),(withN T S l n).2.1.length=l.length
 | [],_,_=>rfl
 | x :: l,S,n=>by simp [withN,withN_len T l]
theorem withN_pot (T:List Str):∀ (l:List Str) (S:Sco) (n:Nat),pot T (withN T S l n).2.2≤pot T n+l.length∧n≤(withN T S l n).2.2
 | [],_,_=>⟨Nat.le_refl _,Nat.le_refl _⟩
 | x :: l,S,n=>by
  have h1:=withN_pot T l (updS S x (pname (nxt T n))) (nxt T n)
  have h2:=pot_nxt T n
  have h3:=nxt_gt T n
  simp only [withN,List.length_cons]
  omega
theorem mpF_congr {s:St} {r:Nat} {f g:Str→Option AV} (h:MpF s r f) (hg:∀ x,f x=g x):MpF s r g:=by
 obtain ⟨es,k,h1,h2,h3⟩:=h
 exact ⟨es,k,h1,h2,fun x=>(h3 x).trans (hg x)⟩
def CopyRes (st:St) (c:Option Self) (N:Nat) (sv:AV) (S:Sco):Prop:=∃ s0 v0,(Tw c N).call 57 [sv] st=some (v0,s0) ∧
 ((v0 = .mn∧s0=st∧∀ x,S x=none)∨(v0 = .m st.next∧s0.next=st.next+1∧MpF s0 st.next (fun x=>(S x).map .s)∧Kp [] [] st s0))
theorem clone_call {mr tr:Nat} {sv:AV} {S:Sco} (h:ScV st mr tr sv S) {N:Nat} (hN:2≤N):CopyRes st c N sv S:=by
 obtain ⟨N,rfl⟩:∃ N',N=N'+1:=⟨N - 1,by omega⟩
 rcases h with ⟨rfl,h⟩ | ⟨r,rfl,⟨es,k,h1,h2,h3⟩,-⟩
 ·refine ⟨st,.mn,?_,.inl ⟨rfl,rfl,h⟩⟩
  rw [copy_nil Tryz.func57 rfl (Nat.le_of_ble_eq_true rfl) rfl]; unfold bodyR
  simp [Tryz.f57,map_nil Tryz.underlying82,resOf_eq,pmapO]
 ·refine ⟨_,_,copy_call h1,.inr ⟨rfl,rfl,⟨es,k,by rw [St.get_new,if_pos rfl],h2,h3⟩,.new _ _ _⟩⟩
def WithRes (o:Option (AV × St)) (st:St) (mr tr:Nat) (T:List Str) (R:Sco × List Str × Nat):Prop :=
 ∃ st' sv',o=some (.tu [sv',slN R.2.1],st')∧ScV st' mr tr sv' R.1∧Mk st' mr tr T R.2.2∧Kp [mr,tr] [mr] st st'
theorem kp_wide {A B:List Nat} {a b:St} (h:Kp [] [] a b):Kp A B a b:=⟨h.next,fun r h1 _=>h.get r h1 (by simp),fun g h1 _=>h.live g h1 (by simp)⟩
theorem Kp.wide' {A B A' B':List Nat} {a b:St} (h:Kp A B a b) (hA:∀ x,x ∈ A→x ∈ A') (hB:∀ x,x ∈ B→x ∈ B'):Kp A' B' a b:=⟨h.next,fun r h1 h2=>h.get r h1 (fun hh=>h2 (hA _ hh)),fun g h1 h2=>h.live g h1 (fun hh=>h2 (hB _ hh))⟩
def WAt (st s:St) (mr tr:Nat) (T:List Str) (S:Sco) (l:List Str) (n lo r1:Nat) (v9:AV) (i:Nat):Prop :=
 ∃ (va:AV) (acc:List Str) (Si:Sco) (ni:Nat) (g:Option Nat),v9=va∧OwZ s lo 1 va i (acc.map .s) g∧(i=0→va = .sn)∧Mk s mr tr T ni∧Kp [mr,tr] [mr] st s∧MpF s r1 (fun x=>(Si x).map .s)∧r1 < s.next ∧
  (withN T S l n=((withN T Si (l.drop i) ni).1,acc++(withN T Si (l.drop i) ni).2.1,(withN T Si (l.drop i) ni).2.2))∧pot T ni+(l.length - i)≤pot T n+l.length∧acc.length=i
theorem slN_of {v:AV} {l:List Str} (h:IsSl v (l.map .s)) (h0:l=[]→v = .sn):v=slN l:=by
 cases l with
 | nil=>exact h0 rfl
 | cons s l =>
  rcases h with ⟨-,h⟩ | h
  ·simp at h
  ·rw [h]; simp [slN]
def StrV (st:St) (mr tr:Nat) (v:AV) (l:List Str):Prop:=IsSl v (l.map .s)∨∃ r g al,v = .sl r 0 l.length 1 none∧st.ce r=some (l.map .s,g,al)∧r < st.next∧g < st.next∧r≠mr∧r≠tr∧g≠mr
theorem StrV.sLen {mr tr:Nat} {v:AV} {l:List Str} (h:StrV st mr tr v l) {s:St}:Go.Ev.bLen Tryz.prog s [36] [v]=some (.i .i64 (l.length:Int),s):=by
 rcases h with h | ⟨r,g,al,rfl,-⟩
 ·exact h.sLen sl36
 ·exact len_sl Tryz.underlying36 rfl rfl
theorem StrV.keep {mr tr:Nat} {v:AV} {l:List Str} {A B:List Nat} {s:St} (h:StrV st mr tr v l) (k:Kp A B st s) (hA:∀ x,x ∈ A→x=mr∨x=tr) (hB:∀ x,x ∈ B→x=mr):StrV s mr tr v l:=by
 rcases h with h | ⟨r,g,al,h1,h2,h3,h4,h5,h6,h7⟩
 ·exact .inl h
 ·exact .inr ⟨r,g,al,h1,k.ce h2 h3 h4 (fun hh=>by rcases hA _ hh with h | h <;> contradiction) (fun hh=>h7 (hB _ hh)),Nat.lt_of_lt_of_le h3 k.next,Nat.lt_of_lt_of_le h4 k.next,h5,h6,h7⟩
theorem StrV.sAt {mr tr:Nat} {v:AV} {l:List Str} (h:StrV st mr tr v l) {k:Nat} (hk:k < l.length):∃ a,indexAddr Tryz.prog 36 v (.i .i64 (k:Int))=some a∧loadAt Tryz.prog 9 st a=some (.s l[k]):=by
 rcases h with h | ⟨r,g,al,rfl,h2,-⟩
 ·obtain ⟨a,h1,h2⟩:=h.sat sl36 ag9 hk
  exact ⟨a,h1,h2 _⟩
 ·refine ⟨_,index_sl Tryz.underlying36 inf9 sz9 _ _ _ _ _ hk,?_⟩
  rw [load_p inf9 ag9,rd_of h2,Nat.zero_add,Nat.mul_one]
  have:cut (l.map AV.s) k 1=some [.s l[k]]:=by
   have key:∀ (l:List AV) (k:Nat) (hk:k < l.length),cut l k 1=some [l[k]]:=by
    intro l
    induction l with
    | nil=>intro k hk; cases hk
    | cons v l ih =>
     intro k hk
     cases k with
     | zero=>simp
     | succ k=>simpa using ih k (by simpa using hk)
   rw [key _ _ (by simpa using hk)]; simp
  rw [this]; rfl
set_option maxHeartbeats 1000000 in
theorem with_call {mr tr n:Nat} {T:List Str} {sv v:AV} {S:Sco} {l:List Str} (hv:StrV st mr tr v l) (hl:l.length≤1000000) (hS:ScV st mr tr sv S) (hM:Mk st mr tr T n) (hp:pot T n+l.length < 1000000) {N:Nat} (hN:3000000≤N) :
  WithRes ((Tw c N).call 37 [sv,.p mr 0,v] st) st mr tr T (withN T S l n):=by
 obtain ⟨N,rfl⟩:∃ N',N=N'+1:=⟨N - 1,by omega⟩
 have ln:=fun st:St=>hv.sLen (s:=st)
 have bn:=le_pot T n
 suffices h:∃ s1 sv' v1,bodyR c N Tryz.f37 (Tryz.f37.body.getD .skip) [sv,.p mr 0,v] st=some (.tu [sv',v1],s1)∧Fz st.next s1 (.tu [sv',v1]) (.tu [sv',slN (withN T S l n).2.1])∧ScV s1 mr tr sv' (withN T S l n).1∧Mk s1 mr tr T (withN T S l n).2.2∧Kp [mr,tr] [mr] st s1 by
  obtain ⟨s1,sv',v1,h1,h2,h3,h4,h5⟩:=h
  refine ⟨s1.shut st.next,sv',body_f rfl rfl rfl rfl rfl (by decide) Tryz.func37 rfl (Nat.le_of_ble_eq_true rfl) h1 h2,?_,h4.shut hM.mrl,h5.shut (Nat.le_refl _)⟩
  rcases h3 with h3 | ⟨r,k1,k2,k3⟩
  ·exact .inl h3
  ·exact .inr ⟨r,k1,(show MpF (s1.shut _) r _ from k2),k3⟩
 unfold bodyR
 cases hl0:l with
 | nil =>
  subst hl0
  refine ⟨st,sv,.sn,?_,?_,hS,hM,.refl _ _ _⟩
  ·simp at ln
   simp [Tryz.f37,ln,resOf_eq,pmapO]
  ·rcases hS with ⟨rfl,-⟩ | ⟨r,rfl,-⟩
   ·exact .tu (.cons (.pure rfl) (.cons (.pure rfl) .nil))
   ·exact .tu (.cons (.map r) (.cons (.pure rfl) .nil))
 | cons x0 l0 =>
  rw [← hl0]
  have hne:l≠[]:=by rw [hl0]; simp
  have hlen:¬ (l.length:Int)=0:=by rw [hl0]; simp; omega
  obtain ⟨s0,v0,q1,q2⟩:=clone_call (c:=c) hS (N:=N) (by omega)
  have m1l:=hM.mrl
  have m2l:=hM.trl
  have m3l:=hM.ne
  have z1l:=hM.z1
  rcases q2 with ⟨rfl,e0,hS0⟩ | ⟨rfl,hn0,hm0,hk0⟩
  ·have e1:=e0.symm
   subst e1
   have m1:MpF (st.new (.mp [] 0)) st.next (fun x=>(S x).map .s):=mpF_congr (.new st) fun x=>by rw [hS0 x]; rfl
   have k1:Kp [] [] st (st.new (.mp [] 0)):=.new _ _ _
   have l1:st.next < (st.new (.mp [] 0)).next:=Nat.lt_succ_self _
   simp [Tryz.f37,ln,hne,callF_of Tryz.func57 rfl,q1,map_nil Tryz.underlying82,evC_loop]
   obtain ⟨s1,hs1⟩:∃ s,st.new (.mp [] 0)=s:=⟨_,rfl⟩
   obtain ⟨lo,hlo⟩:∃ n,s1.next=n:=⟨_,rfl⟩
   obtain ⟨r1,hr1⟩:∃ n,st.next=n:=⟨_,rfl⟩
   rw [hs1] at m1 k1 l1 ⊢
   have hlo2:st.next≤r1∧r1 < lo∧lo≤r1+1:=by rw [← hr1,← hlo,← hs1]; exact ⟨Nat.le_refl _,Nat.lt_succ_self _,Nat.le_refl _⟩
   rw [hr1] at m1 l1 ⊢
   generalize hL:loopC _ _ _ _=L
   obtain ⟨t5,s5,rfl,z8,va,acc,Si,ni,g,z9,zO,z0,zM,zK,zm,zl,zE,zp,za⟩:=loop_use hL 0 l.length
    (fun i t s=>tget t 1 = .p mr 0∧tget t 8 = .m r1∧tget t 21=v∧tget t 22 = .i .i64 (l.length:Int)∧tget t 23 = .i .i64 (i:Int)∧WAt st s mr tr T S l n lo r1 (tget t 9) i)
    (fun t s=>tget t 8 = .m r1∧WAt st s mr tr T S l n lo r1 (tget t 9) l.length) (by omega)
    ⟨by simp,by simp,by simp,by simp,by simp,.sn,[],S,n,none,by simp,by simpa using OwZ.nil s1 lo 1,fun _=>rfl,hM.keep k1 (by simp) (by simp) (by simp) (by simp),kp_wide k1,m1,l1,by simp,by omega,rfl⟩
    (by
     rintro i t s hi ⟨i1,i8,i21,i22,i23,va,acc,Si,ni,g,z9,zO,z0,zM,zK,zm,zl,zE,zp,za⟩
     clear hL
     have e3:(i:Int) < (l.length:Int):=by omega
     have e4:wr .i64 ((i:Int)+1)=((i+1:Nat):Int):=by rw [wr_in (by omega) (by omega)]; rfl
     obtain ⟨a,ix,ld⟩:=(hv.keep zK (fun x hx=>by simpa using hx) (fun x hx=>by simpa using hx)).sAt hi
     have hpn:=pot_nxt T ni
     have hbn:=le_pot T (nxt T ni)
     obtain ⟨s2,f1,f2,f3⟩:=fresh_call (c:=c) zM (by omega) (N:=N) (by omega)
     have zm2:=zm.keep f3 zl (by simp; omega)
     obtain ⟨s3,u1,u2,u3,u4⟩:=zm2.set mp82 l[i] (.s (pname (nxt T ni)))
     have lk:=u2.get mp82 l[i]
     rw [upd_self] at lk
     have O3:=(zO.keep f3 (by simp; omega) (fun x hx=>.inl (by simp at hx; omega))).keep u3 (by simp; omega) (by simp)
     have bo:=fun (t:Tr AV) (h:evO t (.tmp 34) = .s (pname (nxt T ni)))=>build_one (S:=Tw c N) (t:=t) (st:=s3) gr36 (x:=.tmp 34) (cs:=[.s (pname (nxt T ni))]) (by rw [h]; simp) rfl
     have n3:lo≤s3.next:=by
      have:=zK.next
      have:=f3.next
      omega
     obtain ⟨v',g',s4,w1,w2,w3,w4⟩:=O3.app1 gr36 (new:=[.s (pname (nxt T ni))]) rfl rfl (by omega) n3
     have hgl:=zO.g_lt
     have M4:Mk s4 mr tr T (nxt T ni):=by
      refine (f2.keep u3 (by simp; omega) (by simp; omega) (by simp) (by simp; omega)).keep w3 (by simp) (by simp) (fun hh=>?_) (by simp)
      have:=hgl mr (by simpa using hh)
      omega
     have mm4:=u2.keep w3 (by rw [u4]; have:=f3.next; omega) (by simp)
     simp [i1,i8,i21,i22,i23,z9,e3,e4,ix,ld,callF_of Tryz.func40 rfl,f1,u1,lk,bo,w1]
     refine ⟨_,_,⟨rfl,rfl⟩,by simp [i1],by simp [i8],by simp [i21],by simp [i22],by simp,v',acc++[pname (nxt T ni)],updS Si l[i] (pname (nxt T ni)),nxt T ni,g',by simp,by simpa using w2,fun h=>by omega,M4,?_,?_,?_,?_,by omega,by simp [za]⟩
     ·have k13:Kp [mr,tr,r1] [mr] s s3:=(Kp.wide' f3 (by simp) (by simp)).trans (Kp.wide' u3 (by simp) (by simp))
      have k14:Kp [mr,tr] [mr] st s3:=⟨Nat.le_trans zK.next k13.next,fun r h1 h2=>(k13.get r (Nat.lt_of_lt_of_le h1 zK.next) (by simp at h2 ⊢; omega)).trans (zK.get r h1 h2),fun g h1 h2=>(k13.live g (Nat.lt_of_lt_of_le h1 zK.next) h2).trans (zK.live g h1 h2)⟩
      exact kp_new k14 w3 (by simp) (fun x hx=>by have:=hgl x (by simpa using hx); omega)
     ·refine mpF_congr mm4 fun x=>?_
      unfold upd updS
      split <;> rfl
     ·have:=w3.next
      have:=f3.next
      omega
     ·rw [zE,List.drop_eq_getElem_cons hi]
      simp [withN])
    (by
     rintro t s ⟨i1,i8,i21,i22,i23,iA⟩
     clear hL
     simp [i22,i23]
     exact ⟨_,_,⟨rfl,rfl⟩,by simp [i8],by simpa using iA⟩)
   clear hL
   simp [withN] at zE
   have hw:∃ w,Fz st.next s5 va w∧IsSl w (acc.map .s):=by
    obtain ⟨w,h3,h4⟩:=zO.fz (show st.next≤lo by omega) (Nat.le_refl 1) (FzL.pure (pure_strs acc))
    refine ⟨w,h3,?_⟩
    rcases h4 with ⟨rfl,h5,h6⟩ | rfl
    ·exact .inl ⟨rfl,h6⟩
    ·right; rw [List.length_map,za]
   obtain ⟨w,hw1,hw2⟩:=hw
   have hacc:acc≠[]:=by rintro rfl; rw [hl0] at za; simp at za
   have zE1:(withN T S l n).1=Si:=by rw [zE]
   have zE2:(withN T S l n).2.1=acc:=by rw [zE]
   have zE3:(withN T S l n).2.2=ni:=by rw [zE]
   have hwe:=slN_of hw2 (fun h=>absurd h hacc)
   subst hwe
   refine ⟨s5,.m r1,va,?_,?_,.inr ⟨r1,rfl,?_,zl,by omega,by omega,by omega⟩,?_,zK⟩
   ·simp [z8,z9,resOf_eq,pmapO]
   ·rw [zE2]; rw [← hr1]; exact .tu (.cons (.map _) (.cons hw1 .nil))
   ·rw [zE1]; exact zm
   ·rw [zE3]; exact zM
  ·have m1:=hm0
   have k1:=hk0
   have l1:st.next < s0.next:=by omega
   simp [Tryz.f37,ln,hne,callF_of Tryz.func57 rfl,q1,map_eql Tryz.underlying82,evC_loop]
   obtain ⟨s1,hs1⟩:∃ s,s0=s:=⟨_,rfl⟩
   obtain ⟨lo,hlo⟩:∃ n,s1.next=n:=⟨_,rfl⟩
   obtain ⟨r1,hr1⟩:∃ n,st.next=n:=⟨_,rfl⟩
   have hlo2:st.next≤r1∧r1 < lo∧lo≤r1+1:=by rw [← hr1,← hlo,← hs1]; exact ⟨Nat.le_refl _,by omega,by omega⟩
   rw [hs1] at m1 k1 l1 ⊢
   rw [hr1] at m1 l1 ⊢
   generalize hL:loopC _ _ _ _=L
   obtain ⟨t5,s5,rfl,z8,va,acc,Si,ni,g,z9,zO,z0,zM,zK,zm,zl,zE,zp,za⟩:=loop_use hL 0 l.length
    (fun i t s=>tget t 1 = .p mr 0∧tget t 8 = .m r1∧tget t 21=v∧tget t 22 = .i .i64 (l.length:Int)∧tget t 23 = .i .i64 (i:Int)∧WAt st s mr tr T S l n lo r1 (tget t 9) i)
    (fun t s=>tget t 8 = .m r1∧WAt st s mr tr T S l n lo r1 (tget t 9) l.length) (by omega)
    ⟨by simp,by simp,by simp,by simp,by simp,.sn,[],S,n,none,by simp,by simpa using OwZ.nil s1 lo 1,fun _=>rfl,hM.keep k1 (by simp) (by simp) (by simp) (by simp),kp_wide k1,m1,l1,by simp,by omega,rfl⟩
    (by
     rintro i t s hi ⟨i1,i8,i21,i22,i23,va,acc,Si,ni,g,z9,zO,z0,zM,zK,zm,zl,zE,zp,za⟩
     clear hL
     have e3:(i:Int) < (l.length:Int):=by omega
     have e4:wr .i64 ((i:Int)+1)=((i+1:Nat):Int):=by rw [wr_in (by omega) (by omega)]; rfl
     obtain ⟨a,ix,ld⟩:=(hv.keep zK (fun x hx=>by simpa using hx) (fun x hx=>by simpa using hx)).sAt hi
     have hpn:=pot_nxt T ni
     have hbn:=le_pot T (nxt T ni)
     obtain ⟨s2,f1,f2,f3⟩:=fresh_call (c:=c) zM (by omega) (N:=N) (by omega)
     have zm2:=zm.keep f3 zl (by simp; omega)
     obtain ⟨s3,u1,u2,u3,u4⟩:=zm2.set mp82 l[i] (.s (pname (nxt T ni)))
     have lk:=u2.get mp82 l[i]
     rw [upd_self] at lk
     have O3:=(zO.keep f3 (by simp; omega) (fun x hx=>.inl (by simp at hx; omega))).keep u3 (by simp; omega) (by simp)
     have bo:=fun (t:Tr AV) (h:evO t (.tmp 34) = .s (pname (nxt T ni)))=>build_one (S:=Tw c N) (t:=t) (st:=s3) gr36 (x:=.tmp 34) (cs:=[.s (pname (nxt T ni))]) (by rw [h]; simp) rfl
     have n3:lo≤s3.next:=by
      have:=zK.next
      have:=f3.next
      omega
     obtain ⟨v',g',s4,w1,w2,w3,w4⟩:=O3.app1 gr36 (new:=[.s (pname (nxt T ni))]) rfl rfl (by omega) n3
     have hgl:=zO.g_lt
     have M4:Mk s4 mr tr T (nxt T ni):=by
      refine (f2.keep u3 (by simp; omega) (by simp; omega) (by simp) (by simp; omega)).keep w3 (by simp) (by simp) (fun hh=>?_) (by simp)
      have:=hgl mr (by simpa using hh)
      omega
     have mm4:=u2.keep w3 (by rw [u4]; have:=f3.next; omega) (by simp)
     simp [i1,i8,i21,i22,i23,z9,e3,e4,ix,ld,callF_of Tryz.func40 rfl,f1,u1,lk,bo,w1]
     refine ⟨_,_,⟨rfl,rfl⟩,by simp [i1],by simp [i8],by simp [i21],by simp [i22],by simp,v',acc++[pname (nxt T ni)],updS Si l[i] (pname (nxt T ni)),nxt T ni,g',by simp,by simpa using w2,fun h=>by omega,M4,?_,?_,?_,?_,by omega,by simp [za]⟩
     ·have k13:Kp [mr,tr,r1] [mr] s s3:=(Kp.wide' f3 (by simp) (by simp)).trans (Kp.wide' u3 (by simp) (by simp))
      have k14:Kp [mr,tr] [mr] st s3:=⟨Nat.le_trans zK.next k13.next,fun r h1 h2=>(k13.get r (Nat.lt_of_lt_of_le h1 zK.next) (by simp at h2 ⊢; omega)).trans (zK.get r h1 h2),fun g h1 h2=>(k13.live g (Nat.lt_of_lt_of_le h1 zK.next) h2).trans (zK.live g h1 h2)⟩
      exact kp_new k14 w3 (by simp) (fun x hx=>by have:=hgl x (by simpa using hx); omega)
     ·refine mpF_congr mm4 fun x=>?_
      unfold upd updS
      split <;> rfl
     ·have:=w3.next
      have:=f3.next
      omega
     ·rw [zE,List.drop_eq_getElem_cons hi]
      simp [withN])
    (by
     rintro t s ⟨i1,i8,i21,i22,i23,iA⟩
     clear hL
     simp [i22,i23]
     exact ⟨_,_,⟨rfl,rfl⟩,by simp [i8],by simpa using iA⟩)
   clear hL
   simp [withN] at zE
   have hw:∃ w,Fz st.next s5 va w∧IsSl w (acc.map .s):=by
    obtain ⟨w,h3,h4⟩:=zO.fz (show st.next≤lo by omega) (Nat.le_refl 1) (FzL.pure (pure_strs acc))
    refine ⟨w,h3,?_⟩
    rcases h4 with ⟨rfl,h5,h6⟩ | rfl
    ·exact .inl ⟨rfl,h6⟩
    ·right; rw [List.length_map,za]
   obtain ⟨w,hw1,hw2⟩:=hw
   have hacc:acc≠[]:=by rintro rfl; rw [hl0] at za; simp at za
   have zE1:(withN T S l n).1=Si:=by rw [zE]
   have zE2:(withN T S l n).2.1=acc:=by rw [zE]
   have zE3:(withN T S l n).2.2=ni:=by rw [zE]
   have hwe:=slN_of hw2 (fun h=>absurd h hacc)
   subst hwe
   refine ⟨s5,.m r1,va,?_,?_,.inr ⟨r1,rfl,?_,zl,by omega,by omega,by omega⟩,?_,zK⟩
   ·simp [z8,z9,resOf_eq,pmapO]
   ·rw [zE2]; rw [← hr1]; exact .tu (.cons (.map _) (.cons hw1 .nil))
   ·rw [zE1]; exact zm
   ·rw [zE3]; exact zM
end
end Go.Proofs.YtbemeikjepjhoaaGreatDoor
namespace Go.Proofs.YtbemeikjepjhoaaGreatDoor
open Go.Ev
set_option maxRecDepth 100000
noncomputable section
variable {c : Option Self} {st : St}
theorem wf40:wfTy Tryz.prog 40=true:=by kernel_rfl
theorem wf42:wfTy Tryz.prog 42=true:=by kernel_rfl
theorem wf80:wfTy Tryz.prog 80=true:=by kernel_rfl
def zL40:List AV:=[.i .i64 0,.s [],.i .i64 0,.sn,.sn,.sn,.sn]
theorem zC40:zeroC Tryz.prog 40=some zL40:=by kernel_rfl
def zL42:List AV:=[.s [],.i .i64 0,.s [],.i .i64 0,.sn,.sn,.sn,.sn]
theorem zC42:zeroC Tryz.prog 42=some zL42:=by kernel_rfl
def zL80:List AV:=[.i .i64 0,.s [],.i .i64 0,.sn,.i .i64 0,.s [],.i .i64 0,.sn,.sn,.sn,.sn]
theorem zC80:zeroC Tryz.prog 80=some zL80:=by kernel_rfl
theorem place40:∃ fs,Tryz.prog.underlying 40=some (.struct fs)∧placeF Tryz.prog fs 0=some (0,1)∧placeF Tryz.prog fs 1=some (1,1)∧placeF Tryz.prog fs 2=some (2,1)∧placeF Tryz.prog fs 4=some (4,1)∧placeF Tryz.prog fs 5=some (5,1) :=
 ⟨_,Tryz.underlying40,by kernel_rfl,by kernel_rfl,by kernel_rfl,by kernel_rfl,by kernel_rfl⟩
theorem place42:∃ fs,Tryz.prog.underlying 42=some (.struct fs)∧placeF Tryz.prog fs 0=some (0,1)∧placeF Tryz.prog fs 1=some (1,7):=⟨_,Tryz.underlying42,by kernel_rfl,by kernel_rfl⟩
theorem place80:∃ fs,Tryz.prog.underlying 80=some (.struct fs)∧placeF Tryz.prog fs 0=some (0,1)∧placeF Tryz.prog fs 1=some (1,1)∧placeF Tryz.prog fs 2=some (2,1)∧placeF Tryz.prog fs 3=some (3,1)∧placeF Tryz.prog fs 4=some (4,7) :=
 ⟨_,Tryz.underlying80,by kernel_rfl,by kernel_rfl,by kernel_rfl,by kernel_rfl,by kernel_rfl⟩
section
variable {S : Self} {t : Tr AV}
theorem build40h {x y z:Operand} {k num:Int} {nm:Str} (hx:evO t x = .i .i64 k) (hy:evO t y = .s nm) (hz:evO t z = .i .i64 num):opH (.build 40 #[(0,x),(1,y),(2,z)]) Tryz.prog S t st=some (.ag [.i .i64 k,.s nm,.i .i64 num,.sn,.sn,.sn,.sn],st):=by
 obtain ⟨fs,h1,h2,h3,h4,-⟩:=place40
 show @Bool.rec (fun _=>Res) none (opBuild1 Tryz.prog 40 [(0,evO t x),(1,evO t y),(2,evO t z)] st) (wfTy Tryz.prog 40)=_
 rw [wf40,hx,hy,hz]
 show opBuild1 Tryz.prog 40 _ st=_
 unfold opBuild1
 rw [h1]
 simp only [zC40,zL40,fillAg,fill,h2,h3,h4,cells_i,cells_s]
 rfl
theorem build40v {x y:Operand} {k:Int} {nm:Str} (hx:evO t x = .i .i64 k) (hy:evO t y = .s nm):opH (.build 40 #[(0,x),(1,y)]) Tryz.prog S t st=some (.ag [.i .i64 k,.s nm,.i .i64 0,.sn,.sn,.sn,.sn],st):=by
 obtain ⟨fs,h1,h2,h3,-⟩:=place40
 show @Bool.rec (fun _=>Res) none (opBuild1 Tryz.prog 40 [(0,evO t x),(1,evO t y)] st) (wfTy Tryz.prog 40)=_
 rw [wf40,hx,hy]
 show opBuild1 Tryz.prog 40 _ st=_
 unfold opBuild1
 rw [h1]
 simp only [zC40,zL40,fillAg,fill,h2,h3,cells_i,cells_s]
 rfl
theorem build40l {x y z:Operand} {k:Int} {b a:AV} (hx:evO t x = .i .i64 k) (hy:evO t y=b) (hz:evO t z=a) (hb:b.cells=some [b]) (ha:a.cells=some [a]):opH (.build 40 #[(0,x),(4,y),(5,z)]) Tryz.prog S t st=some (.ag [.i .i64 k,.s [],.i .i64 0,.sn,b,a,.sn],st):=by
 obtain ⟨fs,h1,h2,h3,h4,h5,h6⟩:=place40
 show @Bool.rec (fun _=>Res) none (opBuild1 Tryz.prog 40 [(0,evO t x),(4,evO t y),(5,evO t z)] st) (wfTy Tryz.prog 40)=_
 rw [wf40,hx,hy,hz]
 show opBuild1 Tryz.prog 40 _ st=_
 unfold opBuild1
 rw [h1]
 simp only [zC40,zL40,fillAg,fill,h2,h5,h6,cells_i,hb,ha]
 rfl
theorem len7 {cl:List AV} (h:cl.length=7):∃ a b c d e f g,cl=[a,b,c,d,e,f,g]:=by
 match cl,h with
 | [a,b,c,d,e,f,g],_=>exact ⟨a,b,c,d,e,f,g,rfl⟩
theorem build42 {x y:Operand} {nm:Str} {cl:List AV} (hx:evO t x = .s nm) (hy:evO t y = .ag cl) (hl:cl.length=7):opH (.build 42 #[(0,x),(1,y)]) Tryz.prog S t st=some (.ag (.s nm :: cl),st):=by
 obtain ⟨fs,h1,h2,h3⟩:=place42
 show @Bool.rec (fun _=>Res) none (opBuild1 Tryz.prog 42 [(0,evO t x),(1,evO t y)] st) (wfTy Tryz.prog 42)=_
 rw [wf42,hx,hy]
 show opBuild1 Tryz.prog 42 _ st=_
 unfold opBuild1
 rw [h1]
 obtain ⟨a,b,c,d,e,f,g,rfl⟩:=len7 hl
 simp only [zC42,zL42,fillAg,fill,h2,h3,cells_s,cells_ag]
 rfl
theorem build80 {x y z v w:Operand} {k m:Int} {nm:Str} {vs:AV} {cl:List AV} (hx:evO t x = .i .i64 k) (hy:evO t y = .s nm) (hz:evO t z = .i .i64 m) (hv:evO t v=vs) (hw:evO t w = .ag cl) (hl:cl.length=7) (hvs:vs.cells=some [vs]) :
  opH (.build 80 #[(0,x),(1,y),(2,z),(3,v),(4,w)]) Tryz.prog S t st=some (.ag (.i .i64 k :: .s nm :: .i .i64 m :: vs :: cl),st):=by
 obtain ⟨fs,h1,h2,h3,h4,h5,h6⟩:=place80
 show @Bool.rec (fun _=>Res) none (opBuild1 Tryz.prog 80 [(0,evO t x),(1,evO t y),(2,evO t z),(3,evO t v),(4,evO t w)] st) (wfTy Tryz.prog 80)=_
 rw [wf80,hx,hy,hz,hv,hw]
 show opBuild1 Tryz.prog 80 _ st=_
 unfold opBuild1
 rw [h1]
 obtain ⟨a,b,c,d,e,f,g,rfl⟩:=len7 hl
 simp only [zC80,zL80,fillAg,fill,h2,h3,h4,h5,h6,cells_i,cells_s,cells_ag,hvs]
 rfl
end
end
end Go.Proofs.YtbemeikjepjhoaaGreatDoor
namespace Go.Proofs.YtbemeikjepjhoaaGreatDoor
open Go.Ev
set_option maxRecDepth 100000
noncomputable section
variable {c : Option Self} {st : St}
mutual
def _root_.Go.Ev.Ex.wt:Ex→Nat
 | .mk _ _ _ ps b a l=>(txsOf ps).length+(b.len+b.wt)+(a.len+a.wt)+l.wtA
def _root_.Go.Ev.ExL.wt:ExL→Nat
 | .nil _=>0
 | .cons _ x l=>x.wt+l.wt
def _root_.Go.Ev.ExL.wtA:ExL→Nat
 | .nil _=>0
 | .cons p x l=>(altH (p,x)).vs.length+x.wt+l.wtA
end
noncomputable def f18b:Code:=Tryz.f18.body.getD .skip
structure FrP (st s:St) (t:Tr AV) (mr tr rE rR rO:Nat) (T:List Str) (n:Nat) (sv:AV) (S:Sco) (x:Ex) (oc:List AV):Prop where
 t0:tget t 0 = .p mr 0
 t2:tget t 2=sv
 t4:tget t 4 = .p rE 0
 t6:tget t 6 = .p rR 0
 t7:tget t 7 = .p rO 0
 ce:∃ al,s.ce rE=some (x.cells,rE,al)
 cr:∃ al,s.ce rR=some (zL40,rR,al)
 co:∃ al,s.ce rO=some (oc,rO,al)
 lo:st.next≤rE∧rE < rR∧rR < rO∧rO < s.next
 M:Mk s mr tr T n
 V:ScV s mr tr sv S
 K:Kp [mr,tr] [mr] st s
 ml:mr < st.next∧tr < st.next
theorem ce_get {s:St} {r g:Nat} {l:List AV} {al:List Nat} (h:s.ce r=some (l,g,al)):s.get r=some (.ce l g):=(St.ce_spec h).2.2.2
theorem FrP.keep {s s':St} {t t':Tr AV} {mr tr rE rR rO n n':Nat} {T:List Str} {sv sv':AV} {S S':Sco} {x:Ex} {oc oc':List AV} (h:FrP st s t mr tr rE rR rO T n sv S x oc) (k:Kp [mr,tr,rO] [mr,rO] s s')
  (h0:tget t' 0 = .p mr 0) (h2:tget t' 2=sv') (h4:tget t' 4 = .p rE 0) (h6:tget t' 6 = .p rR 0) (h7:tget t' 7 = .p rO 0) (hc:∃ al,s'.ce rO=some (oc',rO,al)) (hM:Mk s' mr tr T n') (hV:ScV s' mr tr sv' S'):FrP st s' t' mr tr rE rR rO T n' sv' S' x oc':=by
 obtain ⟨l1,l2,l3,l4⟩:=h.lo
 obtain ⟨m1,m2⟩:=h.ml
 obtain ⟨a1,c1⟩:=h.ce
 obtain ⟨a2,c2⟩:=h.cr
 have hn:=k.next
 refine ⟨h0,h2,h4,h6,h7,⟨a1,k.ce c1 (by omega) (by omega) (by simp; omega) (by simp; omega)⟩,⟨a2,k.ce c2 (by omega) (by omega) (by simp; omega) (by simp; omega)⟩,hc,⟨l1,l2,l3,by omega⟩,hM,hV,?_,h.ml⟩
 refine ⟨Nat.le_trans h.K.next hn,fun r h1 h2=>(k.get r (Nat.lt_of_lt_of_le h1 h.K.next) ?_).trans (h.K.get r h1 h2),fun g h1 h2=>(k.live g (Nat.lt_of_lt_of_le h1 h.K.next) ?_).trans (h.K.live g h1 h2)⟩
 ·simp at h2 ⊢; omega
 ·simp at h2 ⊢; omega
theorem ScV.keep2 {s s':St} {mr tr rO:Nat} {sv:AV} {S:Sco} {B:List Nat} {l:List AV} {g:Nat} {al:List Nat} (h:ScV s mr tr sv S) (k:Kp [mr,tr,rO] B s s') (hc:s.ce rO=some (l,g,al)):ScV s' mr tr sv S:=by
 rcases h with h | ⟨r,h1,⟨es,q,h2,h2'⟩,h3,h4,h5,h6⟩
 ·exact .inl h
 ·refine .inr ⟨r,h1,⟨es,q,?_,h2'⟩,Nat.lt_of_lt_of_le h3 k.next,h4,h5,h6⟩
  rw [k.get r h3 ?_]
  ·exact h2
  ·have:r≠rO:=by rintro rfl; rw [ce_get hc] at h2; cases h2
   simp [h4,h5,this]
theorem f18_start {mr tr n:Nat} {T:List Str} {sv:AV} {S:Sco} (k:Int) (nm:Str) (num:Int) (ps:AV) (b a l:ExL) (hM:Mk st mr tr T n) (hS:ScV st mr tr sv S) {N:Nat} :
  ∃ t s rE rR rO,evC f18b ⟨Tryz.prog,Tw c N,false,Tryz.f18.ntmps,N⟩ (tmpsOf [.p mr 0,.ag (Ex.mk k nm num ps b a l).cells,sv] 0 .lf) st=thenC (evC (cHd (cTl (cTl f18b))) ⟨Tryz.prog,Tw c N,false,Tryz.f18.ntmps,N⟩ t s) (evC (cTl (cTl (cTl f18b))) ⟨Tryz.prog,Tw c N,false,Tryz.f18.ntmps,N⟩) ∧
   FrP st s t mr tr rE rR rO T n sv S (.mk k nm num ps b a l) [.i .i64 k,.s nm,.i .i64 num,.sn,.sn,.sn,.sn]:=by
 have c1:=newCe_ce (st:=st) (Ex.mk k nm num ps b a l).cells
 have k1:=Kp.newCe (st:=st) [] [] (Ex.mk k nm num ps b a l).cells
 obtain ⟨s1,hs1⟩:∃ s,st.newCe (Ex.mk k nm num ps b a l).cells=s:=⟨_,rfl⟩
 have n1:s1.next=st.next+1:=by rw [← hs1]; rfl
 rw [hs1] at c1 k1
 have c2:=newCe_ce (st:=s1) zL40
 have k2:=Kp.newCe (st:=s1) [] [] zL40
 obtain ⟨s2,hs2⟩:∃ s,s1.newCe zL40=s:=⟨_,rfl⟩
 have n2:s2.next=s1.next+1:=by rw [← hs2]; rfl
 rw [hs2] at c2 k2
 obtain ⟨s3,u1,u2,u3,u4⟩:=alloc_store (s:=s2) (z:=zL40) (cells:=[.i .i64 k,.s nm,.i .i64 num,.sn,.sn,.sn,.sn]) rfl rfl
 have e2:=exAt (k2.ce c1 (by omega) (by omega) (by simp) (by simp))
 have r2:rd s2 st.next 2 1=some [.i .i64 num]:=by rw [rd_of (k2.ce c1 (by omega) (by omega) (by simp) (by simp))]; rfl
 have r0:=e2.kd
 have r1:=e2.nm
 have bo:=fun (t:Tr AV) (h1:evO t (.tmp 25) = .i .i64 k) (h2:evO t (.tmp 27) = .s nm) (h3:evO t (.tmp 29) = .i .i64 num)=>build40h (S:=Tw c N) (st:=s2) (t:=t) h1 h2 h3
 have cl:(AV.ag (Ex.mk k nm num ps b a l).cells).cells=some (Ex.mk k nm num ps b a l).cells:=cells_ag _
 generalize hcl:(Ex.mk k nm num ps b a l).cells=cells at *
 rw [show evC f18b ⟨Tryz.prog,Tw c N,false,Tryz.f18.ntmps,N⟩ (tmpsOf [.p mr 0,.ag cells,sv] 0 .lf) st=thenC (evC (cHd f18b) ⟨Tryz.prog,Tw c N,false,Tryz.f18.ntmps,N⟩ (tmpsOf [.p mr 0,.ag cells,sv] 0 .lf) st) (fun t s=>thenC (evC (cHd (cTl f18b)) ⟨Tryz.prog,Tw c N,false,Tryz.f18.ntmps,N⟩ t s)
  (fun t s=>thenC (evC (cHd (cTl (cTl f18b))) ⟨Tryz.prog,Tw c N,false,Tryz.f18.ntmps,N⟩ t s) (evC (cTl (cTl (cTl f18b))) ⟨Tryz.prog,Tw c N,false,Tryz.f18.ntmps,N⟩))) from rfl]
 have a0:∃ t,evC (cHd f18b) ⟨Tryz.prog,Tw c N,false,Tryz.f18.ntmps,N⟩ (tmpsOf [.p mr 0,.ag cells,sv] 0 .lf) st = .nx t s2∧tget t 0 = .p mr 0∧tget t 2=sv∧tget t 4 = .p st.next 0∧tget t 6 = .p s1.next 0:=by
  simp [f18b,cHd,Tryz.f18,opH_alloc,zC40,hs1,hs2]
 obtain ⟨t1,a0,b0,b2,b4,b6⟩:=a0
 have a1:∃ t,evC (cHd (cTl f18b)) ⟨Tryz.prog,Tw c N,false,Tryz.f18.ntmps,N⟩ t1 s2 = .nx t s3∧tget t 0 = .p mr 0∧tget t 2=sv∧tget t 4 = .p st.next 0∧tget t 6 = .p s1.next 0∧tget t 7 = .p s2.next 0:=by
  simp [f18b,cHd,cTl,Tryz.f18,b0,b2,b4,b6,off40_0,off40_1,off40_2,load_p inf3 ag3,load_p inf9 ag9,load_p inf2 ag2,r0,r1,r2,bo,opH_alloc,zC40,store_ag inf40 sz40,u1]
 obtain ⟨t2,a1,d0,d2,d4,d6,d7⟩:=a1
 have c1':=(k2.trans u3).ce c1 (by omega) (by omega) (by simp) (by simp)
 have kk:Kp [] [] st s3:=(k1.trans k2).trans u3
 refine ⟨t2,s3,st.next,s1.next,s2.next,?_,⟨d0,d2,d4,d6,d7,⟨[st.next],by rw [hcl]; exact c1'⟩,⟨_,u3.ce c2 (by omega) (by omega) (by simp) (by simp)⟩,⟨_,u2⟩,⟨Nat.le_refl _,by omega,by omega,u4⟩,hM.keep kk (by simp) (by simp) (by simp) (by simp),hS.keep kk (by simp),kp_wide kk,hM.mrl,hM.trl⟩⟩
 rw [a0,thenC_nx,a1,thenC_nx]
theorem isNm_sl {v:AV} (h:IsNm v):IsSl v ((txsOf v).map .s):=h.sl.1
theorem f18_var {mr tr rE rR rO n:Nat} {T:List Str} {sv:AV} {S:Sco} {nm:Str} {num:Int} {ps:AV} {b a l:ExL} {s:St} {t:Tr AV} (h:FrP st s t mr tr rE rR rO T n sv S (.mk 1 nm num ps b a l) [.i .i64 1,.s nm,.i .i64 num,.sn,.sn,.sn,.sn]) {N:Nat} :
  ∃ t' s',evC (cHd (cTl (cTl f18b))) ⟨Tryz.prog,Tw c N,false,Tryz.f18.ntmps,N⟩ t s = .rt t' s'∧tget t' 6 = .p rR 0∧(∃ al,s'.ce rR=some ([.i .i64 1,.s ((S nm).getD nm),.i .i64 num,.sn,.sn,.sn,.sn],rR,al))∧Kp [mr,tr] [mr] st s'∧Mk s' mr tr T n:=by
 obtain ⟨l1,l2,l3,l4⟩:=h.lo
 obtain ⟨m1,m2⟩:=h.ml
 obtain ⟨al,ce⟩:=h.ce
 obtain ⟨al2,cr⟩:=h.cr
 obtain ⟨al3,co⟩:=h.co
 have r0:=(exAt ce).kd
 have r1:=(exAt ce).nm
 have fin:∀ (s1:St) (y:Str),(∃ al,s1.ce rO=some ([.i .i64 1,.s y,.i .i64 num,.sn,.sn,.sn,.sn],rO,al))→Kp [rO] [rO] s s1→∃ s',wt s1 rR 0 [.i .i64 1,.s y,.i .i64 num,.sn,.sn,.sn,.sn]=some s'∧(∃ al,s'.ce rR=some ([.i .i64 1,.s y,.i .i64 num,.sn,.sn,.sn,.sn],rR,al))∧Kp [mr,tr] [mr] st s'∧Mk s' mr tr T n:=by
  intro s1 y hy k1
  have cr1:=k1.ce cr (by omega) (by omega) (by simp; omega) (by simp; omega)
  have hw:=wt_of cr1 0 [.i .i64 1,.s y,.i .i64 num,.sn,.sn,.sn,.sn] (by simp [zL40]) (by simp)
  rw [ovr_zero,over_all (by simp [zL40])] at hw
  have k2:Kp [rR] [rR] s1 (s1.setCe rR [.i .i64 1,.s y,.i .i64 num,.sn,.sn,.sn,.sn] rR):=.setCe (by simp) (by simp)
  refine ⟨_,hw,⟨_,setCe_ce _ _ _⟩,?_,(h.M.keep k1 (by simp; omega) (by simp; omega) (by simp; omega) (by simp; omega)).keep k2 (by simp; omega) (by simp; omega) (by simp; omega) (by simp; omega)⟩
  exact kp_new (kp_new h.K k1 (by simp; omega) (by simp; omega)) k2 (by simp; omega) (by simp; omega)
 have lk:lookup Tryz.prog 82 s sv (.s nm) true=some (.tu [((S nm).map AV.s).getD (.s []),.b (S nm).isSome]):=by
  rcases h.V with ⟨rfl,h1⟩ | ⟨r,rfl,h1,-⟩
  ·rw [nil_get2 mp82,h1]; rfl
  ·rw [h1.get2 mp82]; cases S nm <;> rfl
 cases hS:S nm with
 | none =>
  rw [hS] at lk
  simp at lk
  obtain ⟨s',f1,f2,f3,f4⟩:=fin s nm ⟨_,co⟩ (.refl _ _ _)
  have ro:rd s rO 0 7=some [.i .i64 1,.s nm,.i .i64 num,.sn,.sn,.sn,.sn]:=by rw [rd_of co]; rfl
  have key:∃ t',evC (cHd (cTl (cTl f18b))) ⟨Tryz.prog,Tw c N,false,Tryz.f18.ntmps,N⟩ t s = .rt t' s'∧tget t' 6 = .p rR 0:=by
   simp [f18b,cHd,cTl,Tryz.f18,h.t2,h.t4,h.t6,h.t7,off40_0,off40_1,load_p inf3 ag3,load_p inf9 ag9,r0,r1,lk,load_ag inf40 ag40,sz40,ro,store_ag inf40 sz40,f1]
  obtain ⟨t',k1,k2⟩:=key
  exact ⟨t',s',k1,k2,f2,f3,f4⟩
 | some y =>
  rw [hS] at lk
  simp at lk
  have hw:=wt_of co 1 [.s y] (by simp) (by simp)
  simp at hw
  have co1:(s.setCe rO [.i .i64 1,.s y,.i .i64 num,.sn,.sn,.sn,.sn] rO).ce rO=some ([.i .i64 1,.s y,.i .i64 num,.sn,.sn,.sn,.sn],rO,[rO]):=setCe_ce _ _ _
  have k1:Kp [rO] [rO] s (s.setCe rO [.i .i64 1,.s y,.i .i64 num,.sn,.sn,.sn,.sn] rO):=.setCe (by simp) (by simp)
  obtain ⟨s1,hs1⟩:∃ s1,s.setCe rO [.i .i64 1,.s y,.i .i64 num,.sn,.sn,.sn,.sn] rO=s1:=⟨_,rfl⟩
  rw [hs1] at k1 hw co1
  obtain ⟨s',f1,f2,f3,f4⟩:=fin s1 y ⟨_,co1⟩ k1
  have ro:rd s1 rO 0 7=some [.i .i64 1,.s y,.i .i64 num,.sn,.sn,.sn,.sn]:=by rw [rd_of co1]; rfl
  have key:∃ t',evC (cHd (cTl (cTl f18b))) ⟨Tryz.prog,Tw c N,false,Tryz.f18.ntmps,N⟩ t s = .rt t' s'∧tget t' 6 = .p rR 0:=by
   simp [f18b,cHd,cTl,Tryz.f18,h.t2,h.t4,h.t6,h.t7,off40_0,off40_1,load_p inf3 ag3,load_p inf9 ag9,r0,r1,lk,store_p inf9 sz9,hw,load_ag inf40 ag40,sz40,ro,store_ag inf40 sz40,f1]
  obtain ⟨t',k1,k2⟩:=key
  exact ⟨t',s',k1,k2,f2,f3,f4⟩
theorem f18_not {mr tr rE rR rO n:Nat} {T:List Str} {sv:AV} {S:Sco} {k:Int} (hk:k≠1) {nm:Str} {num:Int} {ps:AV} {b a l:ExL} {oc:List AV} {s:St} {t:Tr AV} (h:FrP st s t mr tr rE rR rO T n sv S (.mk k nm num ps b a l) oc) {N:Nat} :
  ∃ t',evC (cHd (cTl (cTl f18b))) ⟨Tryz.prog,Tw c N,false,Tryz.f18.ntmps,N⟩ t s = .nx t' s∧FrP st s t' mr tr rE rR rO T n sv S (.mk k nm num ps b a l) oc:=by
 obtain ⟨al,ce⟩:=h.ce
 have r0:=(exAt ce).kd
 have key:∃ t',evC (cHd (cTl (cTl f18b))) ⟨Tryz.prog,Tw c N,false,Tryz.f18.ntmps,N⟩ t s = .nx t' s∧tget t' 0 = .p mr 0∧tget t' 2=sv∧tget t' 4 = .p rE 0∧tget t' 6 = .p rR 0∧tget t' 7 = .p rO 0:=by
  simp [f18b,cHd,cTl,Tryz.f18,h.t0,h.t2,h.t4,h.t6,h.t7,off40_0,load_p inf3 ag3,r0,hk]
 obtain ⟨t',k1,k2,k3,k4,k5,k6⟩:=key
 exact ⟨t',k1,k2,k3,k4,k5,k6,h.ce,h.cr,h.co,h.lo,h.M,h.V,h.K,h.ml⟩
end
end Go.Proofs.YtbemeikjepjhoaaGreatDoor
