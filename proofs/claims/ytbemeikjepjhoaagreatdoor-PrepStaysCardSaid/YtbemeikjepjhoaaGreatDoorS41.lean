/-
  The preparation of an expression: its parameters, the names that it binds. · What the preparation makes is an expression; how many names it makes. · The preparation of an expression: what it binds.
-/
import Derived.Test.YtbemeikjepjhoaaGreatDoorS40
namespace Go.Proofs.YtbemeikjepjhoaaGreatDoor
open Go.Ev
set_option maxRecDepth 100000
noncomputable section
variable {c : Option Self} {st : St}
noncomputable def f18at:Nat→Code
 | 0=>f18b
 | k+1=>cTl (f18at k)
theorem slN_cells (l:List Str):(slN l).cells=some [slN l]∧isSc (slN l)=true:=by cases l <;> simp [slN]
theorem slN_sl (l:List Str):IsSl (slN l) (l.map .s):=by
 cases l with
 | nil=>exact .inl ⟨rfl,rfl⟩
 | cons s l=>right; simp [slN]
theorem out_store {s:St} {mr tr rE rR rO n:Nat} {t:Tr AV} {T:List Str} {sv:AV} {S:Sco} {x:Ex} {oc:List AV} (h:FrP st s t mr tr rE rR rO T n sv S x oc) {i:Nat} {v:AV} (hi:i < oc.length) (hv:isSc v=true) :
  ∃ s',wt s rO i [v]=some s'∧(∃ al,s'.ce rO=some (oc.set i v,rO,al))∧Kp [rO] [rO] s s'∧Mk s' mr tr T n∧ScV s' mr tr sv S:=by
 obtain ⟨l1,l2,l3,l4⟩:=h.lo
 obtain ⟨m1,m2⟩:=h.ml
 obtain ⟨al3,co⟩:=h.co
 have hw:=wt_of co i [v] (by simp; omega) (by simp [hv])
 rw [ovr_one] at hw
 have k1:Kp [rO] [rO] s (s.setCe rO (oc.set i v) rO):=.setCe (by simp) (by simp)
 exact ⟨_,hw,⟨_,setCe_ce _ _ _⟩,k1,h.M.keep k1 (by simp; omega) (by simp; omega) (by simp; omega) (by simp; omega),h.V.keep2 (Kp.wide' k1 (by simp) (fun x hx=>hx)) co⟩
theorem f18_params {mr tr rE rR rO n:Nat} {T:List Str} {sv:AV} {S:Sco} {k:Int} {nm:Str} {num:Int} {ps:AV} {b a l:ExL} {s:St} {t:Tr AV} (hps:IsNm ps) (hl:(txsOf ps).length≤1000000) (hp:pot T n+(txsOf ps).length < 1000000)
  (h:FrP st s t mr tr rE rR rO T n sv S (.mk k nm num ps b a l) [.i .i64 k,.s nm,.i .i64 num,.sn,.sn,.sn,.sn]) {N:Nat} (hN:3000000≤N) :
  ∃ t' s' sv',evC (cHd (f18at 3)) ⟨Tryz.prog,Tw c N,false,Tryz.f18.ntmps,N⟩ t s = .nx t' s'∧FrP st s' t' mr tr rE rR rO T (withN T S (txsOf ps) n).2.2 sv' (withN T S (txsOf ps) n).1 (.mk k nm num ps b a l) [.i .i64 k,.s nm,.i .i64 num,slN (withN T S (txsOf ps) n).2.1,.sn,.sn,.sn]:=by
 obtain ⟨l1,l2,l3,l4⟩:=h.lo
 obtain ⟨m1,m2⟩:=h.ml
 obtain ⟨al,ce⟩:=h.ce
 have r3:rd s rE 3 1=some [ps]:=by rw [rd_of ce]; rfl
 obtain ⟨s1,sv1,f1,f2,f3,f4⟩:=with_call (c:=c) (st:=s) (.inl (isNm_sl hps)) hl h.V h.M hp hN
 have h1:FrP st s1 (((t.set 2 (some sv1)))) mr tr rE rR rO T (withN T S (txsOf ps) n).2.2 sv1 (withN T S (txsOf ps) n).1 (.mk k nm num ps b a l) [.i .i64 k,.s nm,.i .i64 num,.sn,.sn,.sn,.sn]:=by
  obtain ⟨al3,co⟩:=h.co
  exact h.keep (Kp.wide' f4 (by simp) (by simp)) (by simp [h.t0]) (by simp) (by simp [h.t4]) (by simp [h.t6]) (by simp [h.t7]) ⟨_,f4.ce co (by omega) (by omega) (by simp; omega) (by simp; omega)⟩ f3 f2
 obtain ⟨s2,w1,w2,w3,w4,w5⟩:=out_store h1 (i:=3) (v:=slN (withN T S (txsOf ps) n).2.1) (by simp) (slN_cells _).2
 have sc:=(slN_cells (withN T S (txsOf ps) n).2.1).1
 have key:∃ t',evC (cHd (f18at 3)) ⟨Tryz.prog,Tw c N,false,Tryz.f18.ntmps,N⟩ t s = .nx t' s2∧tget t' 0 = .p mr 0∧tget t' 2=sv1∧tget t' 4 = .p rE 0∧tget t' 6 = .p rR 0∧tget t' 7 = .p rO 0:=by
  simp [f18at,f18b,cHd,cTl,Tryz.f18,h.t0,h.t2,h.t4,h.t6,h.t7,off40_3,load_p inf36 ag36,r3,callF_of Tryz.func37 rfl,f1,store_p inf36 sz36,sc,w1]
 obtain ⟨t',k1,k2,k3,k4,k5,k6⟩:=key
 exact ⟨t',s2,sv1,k1,h1.keep (Kp.wide' w3 (by simp) (by simp)) k2 k3 k4 k5 k6 (by simpa using w2) w4 w5⟩
theorem f18_nil10 {mr tr rE rR rO n:Nat} {T:List Str} {sv:AV} {S:Sco} {x:Ex} {oc:List AV} {s:St} {t:Tr AV} (h:FrP st s t mr tr rE rR rO T n sv S x oc) {N:Nat} :
  ∃ t',evC (cHd (f18at 4)) ⟨Tryz.prog,Tw c N,false,Tryz.f18.ntmps,N⟩ t s = .nx t' s∧tget t' 10 = .sn∧FrP st s t' mr tr rE rR rO T n sv S x oc:=by
 have key:∃ t',evC (cHd (f18at 4)) ⟨Tryz.prog,Tw c N,false,Tryz.f18.ntmps,N⟩ t s = .nx t' s∧tget t' 10 = .sn∧tget t' 0 = .p mr 0∧tget t' 2=sv∧tget t' 4 = .p rE 0∧tget t' 6 = .p rR 0∧tget t' 7 = .p rO 0:=by
  simp [f18at,f18b,cHd,cTl,Tryz.f18,h.t0,h.t2,h.t4,h.t6,h.t7]
 obtain ⟨t',k1,k0,k2,k3,k4,k5,k6⟩:=key
 exact ⟨t',k1,k0,k2,k3,k4,k5,k6,h.ce,h.cr,h.co,h.lo,h.M,h.V,h.K,h.ml⟩
theorem f18_nil15 {mr tr rE rR rO n:Nat} {T:List Str} {sv:AV} {S:Sco} {x:Ex} {oc:List AV} {s:St} {t:Tr AV} (h:FrP st s t mr tr rE rR rO T n sv S x oc) {N:Nat} :
  ∃ t',evC (cHd (f18at 8)) ⟨Tryz.prog,Tw c N,false,Tryz.f18.ntmps,N⟩ t s = .nx t' s∧tget t' 15 = .sn∧FrP st s t' mr tr rE rR rO T n sv S x oc:=by
 have key:∃ t',evC (cHd (f18at 8)) ⟨Tryz.prog,Tw c N,false,Tryz.f18.ntmps,N⟩ t s = .nx t' s∧tget t' 15 = .sn∧tget t' 0 = .p mr 0∧tget t' 2=sv∧tget t' 4 = .p rE 0∧tget t' 6 = .p rR 0∧tget t' 7 = .p rO 0:=by
  simp [f18at,f18b,cHd,cTl,Tryz.f18,h.t0,h.t2,h.t4,h.t6,h.t7]
 obtain ⟨t',k1,k0,k2,k3,k4,k5,k6⟩:=key
 exact ⟨t',k1,k0,k2,k3,k4,k5,k6,h.ce,h.cr,h.co,h.lo,h.M,h.V,h.K,h.ml⟩
def GrO (s:St) (lo z:Nat) (v:AV) (n:Nat) (cs:List AV):Prop:=∃ g,(n=0→v = .sn)∧OwZ s lo z v n cs g
theorem strV_of {s:St} {lo mr tr n:Nat} {v:AV} {l:List Str} {g:Option Nat} (h0:n=0→v = .sn) (h:OwZ s lo 1 v n (l.map .s) g) (hn:n=l.length:=by rfl) (h1:mr < lo∧tr < lo:=by omega):StrV s mr tr v l:=by
 subst hn
 rcases h with ⟨rfl,h2,h3,-⟩ | ⟨r,rfl,h2,h3,-⟩ | ⟨r,f,al,-,rfl,h2,h3,h4,h5,h6,h7,h8⟩
 ·exact .inl (.inl ⟨rfl,h3⟩)
 ·exact absurd (h0 h2) (by simp)
 ·exact .inr ⟨r,f,al,rfl,h2,h7,h8,by omega,by omega,by omega⟩
theorem f18_names {mr tr rE rR rO n:Nat} {T:List Str} {sv:AV} {S:Sco} {k:Int} {nm:Str} {num:Int} {ps:AV} {b a l:ExL} {oc:List AV} {s:St} {t:Tr AV} (hb:b.Ty 1) (hl:b.len≤1000000)
  (h:FrP st s t mr tr rE rR rO T n sv S (.mk k nm num ps b a l) oc) (h10:tget t 10 = .sn) {N:Nat} (hN:3000000≤N) :
  ∃ t' s',evC (cHd (f18at 5)) ⟨Tryz.prog,Tw c N,false,Tryz.f18.ntmps,N⟩ t s = .nx t' s'∧FrP st s' t' mr tr rE rR rO T n sv S (.mk k nm num ps b a l) oc∧StrV s' mr tr (tget t' 10) b.names:=by
 obtain ⟨l1,l2,l3,l4⟩:=h.lo
 obtain ⟨m1,m2⟩:=h.ml
 obtain ⟨al,ce⟩:=h.ce
 have rb:=(exAt ce).b
 have ln:=fun st:St=>len_sl (st:=st) Tryz.underlying23 (b.slice_len 8) (b.slice_text 8)
 suffices hh:∃ t' s',evC (cHd (f18at 5)) ⟨Tryz.prog,Tw c N,false,Tryz.f18.ntmps,N⟩ t s = .nx t' s'∧(tget t' 0 = .p mr 0∧tget t' 2=sv∧tget t' 4 = .p rE 0∧tget t' 6 = .p rR 0∧tget t' 7 = .p rO 0)∧GrO s' s.next 1 (tget t' 10) b.names.length (b.names.map .s)∧Kp [] [] s s' by
  obtain ⟨t',s',q1,⟨q2,q3,q4,q5,q6⟩,⟨g,q9,q7⟩,q8⟩:=hh
  obtain ⟨al3,co⟩:=h.co
  refine ⟨t',s',q1,h.keep (kp_wide q8) q2 q3 q4 q5 q6 ⟨_,q8.ce co (by omega) (by omega) (by simp) (by simp)⟩ (h.M.keep q8 (by simp) (by simp) (by simp) (by simp)) (h.V.keep q8 (by simp)),strV_of q9 q7 rfl (by omega)⟩
 simp [f18at,f18b,cHd,cTl,Tryz.f18,h.t4,off40_4,load_p inf23 ag23,rb,ln,evC_loop]
 generalize hL:loopC _ _ _ _=L
 obtain ⟨t1,s1,rfl,p0,p2,p4,p6,p7,pO,pK⟩:=loop_use hL 0 b.list.length
  (fun i t' s'=>tget t' 0 = .p mr 0∧tget t' 2=sv∧tget t' 4 = .p rE 0∧tget t' 6 = .p rR 0∧tget t' 7 = .p rO 0∧tget t' 55=b.slice 8∧tget t' 56 = .i .i64 (b.len:Int)∧tget t' 57 = .i .i64 (i:Int)∧GrO s' s.next 1 (tget t' 10) i ((b.names.take i).map .s)∧Kp [] [] s s')
  (fun t' s'=>tget t' 0 = .p mr 0∧tget t' 2=sv∧tget t' 4 = .p rE 0∧tget t' 6 = .p rR 0∧tget t' 7 = .p rO 0∧GrO s' s.next 1 (tget t' 10) b.names.length (b.names.map .s)∧Kp [] [] s s') (by rw [← ExL.len_eq]; omega)
  ⟨by simp [h.t0],by simp [h.t2],by simp [h.t4],by simp [h.t6],by simp [h.t7],by simp,by simp,by simp,⟨none,fun _=>by simp [h10],by simpa [h10] using OwZ.nil s s.next 1⟩,.refl _ _ _⟩
  (by
   rintro i t' s' hi ⟨i0,i2,i4,i6,i7,i55,i56,i57,⟨g,iZ,iO⟩,iK⟩
   clear hL
   obtain ⟨va,i10⟩:∃ va,tget t' 10=va:=⟨_,rfl⟩
   rw [i10] at iO
   have hil:i < b.len:=by rw [ExL.len_eq]; exact hi
   have hin:i < b.names.length:=by rw [names_len]; exact hil
   have e3:(i:Int) < (b.len:Int):=by omega
   have e4:wr .i64 ((i:Int)+1)=((i+1:Nat):Int):=by rw [wr_in (by omega) (by omega)]; rfl
   obtain ⟨r,r1,r2⟩:=part_at hb.pre (show preLen 1+7=8 from rfl) hi
   have ix:=index_rs (P:=Tryz.prog) Tryz.underlying23 inf42 sz42 b.flat b.len i hil
   rw [← ExL.slice_rs hil,r1,← List.append_assoc] at ix
   have hT:=ExL.ty_list hb _ (List.getElem_mem hi)
   have hpr:=pre1 hT.1
   have hnm:b.names[i]=txOf (b.list[i].1.headD .un):=by simp [ExL.names,bname]
   rw [← hnm] at hpr
   have hce:(b.list[i].1++b.list[i].2.cells).length=8:=by rw [List.length_append,r2,Ex.cells_len]; rfl
   have hsc:allSc (b.list[i].1++b.list[i].2.cells)=true:=allSc_append hT.1.sc (Ex.cells_sc hT.2.wf)
   have ld:=fun st:St=>load_ms (st:=st) (r:=r) inf42 ag42 sz42 hce
   have hhd:cut (b.list[i].1++b.list[i].2.cells) 0 1=some [.s b.names[i]]:=by rw [hpr]; rfl
   generalize b.list[i].1++b.list[i].2.cells=cl at *
   obtain ⟨s2,u1,u2,u3,u4⟩:=alloc_store (s:=s') (z:=zeroL42) hce hsc
   have iO2:=iO.keep u3 (by simp) (by simp)
   have bo:=fun (t:Tr AV) (h:evO t (.tmp 63) = .s b.names[i])=>build_one (S:=Tw c N) (t:=t) (st:=s2) gr36 (x:=.tmp 63) (cs:=[.s b.names[i]]) (by rw [h]; simp) rfl
   obtain ⟨v',g',s3,w1,w2,w3,w4⟩:=iO2.app1 gr36 (new:=[.s b.names[i]]) rfl rfl (by omega) (by have:=iK.next; have:=u3.next; omega)
   simp [i10,i55,i56,i57,e3,e4,ix,ld,opH_alloc,zeroC42,store_ag inf42 sz42,hce,u1,off42_0,load_p inf9 ag9,rd_of u2,hhd,bo,w1]
   have hgl:=iO.g_lt
   refine ⟨_,_,⟨rfl,rfl⟩,by simp [i0],by simp [i2],by simp [i4],by simp [i6],by simp [i7],by simp [i55],by simp [i56],by simp,⟨g',fun hh=>by omega,?_⟩,kp_new (iK.trans u3) w3 (by simp) (fun x hx=>(hgl x (by simpa using hx)).1)⟩
   have w5:OwZ s3 s.next 1 v' (i+1) ((b.names.take (i+1)).map .s) g':=by
    rw [← List.take_append_getElem hin,List.map_append]; exact w2
   simpa using w5)
  (by
   rintro t' s' ⟨i0,i2,i4,i6,i7,i55,i56,i57,iG,iK⟩
   clear hL
   simp [i56,i57,ExL.len_eq]
   refine ⟨_,_,⟨rfl,rfl⟩,by simp [i0],by simp [i2],by simp [i4],by simp [i6],by simp [i7],?_,iK⟩
   rw [← ExL.len_eq,← names_len,List.take_length] at iG
   simpa using iG)
 clear hL
 exact ⟨t1,s1,by simp,⟨p0,p2,p4,p6,p7⟩,pO,pK⟩
theorem f18_bound {mr tr rE rR rO n:Nat} {T:List Str} {sv:AV} {S:Sco} {x:Ex} {oc:List AV} {l:List Str} {s:St} {t:Tr AV} (hl:l.length≤1000000) (hp:pot T n+l.length < 1000000) (h:FrP st s t mr tr rE rR rO T n sv S x oc) (h10:StrV s mr tr (tget t 10) l) {N:Nat} (hN:3000000≤N) :
  ∃ t' s' sv',evC (cHd (f18at 6)) ⟨Tryz.prog,Tw c N,false,Tryz.f18.ntmps,N⟩ t s = .nx t' s'∧FrP st s' t' mr tr rE rR rO T (withN T S l n).2.2 sv' (withN T S l n).1 x oc∧tget t' 10=slN (withN T S l n).2.1:=by
 obtain ⟨l1,l2,l3,l4⟩:=h.lo
 obtain ⟨m1,m2⟩:=h.ml
 obtain ⟨s1,sv1,f1,f2,f3,f4⟩:=with_call (c:=c) h10 hl h.V h.M hp hN
 have key:∃ t',evC (cHd (f18at 6)) ⟨Tryz.prog,Tw c N,false,Tryz.f18.ntmps,N⟩ t s = .nx t' s1∧tget t' 0 = .p mr 0∧tget t' 2=sv1∧tget t' 4 = .p rE 0∧tget t' 6 = .p rR 0∧tget t' 7 = .p rO 0∧tget t' 10=slN (withN T S l n).2.1:=by
  simp [f18at,f18b,cHd,cTl,Tryz.f18,h.t0,h.t2,h.t4,h.t6,h.t7,callF_of Tryz.func37 rfl,f1]
 obtain ⟨t',k1,k2,k3,k4,k5,k6,k7⟩:=key
 obtain ⟨al3,co⟩:=h.co
 exact ⟨t',s1,sv1,k1,h.keep (Kp.wide' f4 (by simp) (by simp)) k2 k3 k4 k5 k6 ⟨_,f4.ce co (by omega) (by omega) (by simp; omega) (by simp; omega)⟩ f3 f2,k7⟩
end
end Go.Proofs.YtbemeikjepjhoaaGreatDoor
namespace Go.Proofs.YtbemeikjepjhoaaGreatDoor
open Go.Ev
set_option maxRecDepth 100000
noncomputable section
theorem slN_nm {l:List Str} (h:l.length≤9223372036854775807):IsNm (slN l):=⟨l,slN_sl l,h⟩
theorem txsOf_slN (l:List Str):txsOf (slN l)=l:=txsOf_sl (slN_sl l)
theorem isNm_len {v:AV} (h:IsNm v):(txsOf v).length≤9223372036854775807:=h.sl.2
theorem altH_ty {p:List AV × Ex} (h:preOK 4 p.1):∃ vs,p.1=[.i .i64 (altH p).k,.s (altH p).n,.i .i64 (altH p).m,vs]∧IsNm vs∧(altH p).vs=txsOf vs:=by
 obtain ⟨k,n,m,vs,h,hv⟩:=h
 refine ⟨vs,?_,hv,?_⟩
 ·unfold altH; rw [h]; rfl
 ·unfold altH; rw [h]; rfl
variable (T : List Str)
mutual
theorem prepE_ty:∀ (x:Ex) (S:Sco) (n:Nat),x.Ty→(prepE T x S n).1.Ty
 | .mk k nm num ps b a l,S,n,h=>by
  simp only [Ex.Ty] at h
  obtain ⟨hk,hps,hb,ha,hl⟩:=h
  unfold prepE
  by_cases h1:k=1
  ·rw [if_pos h1]
   simp only [Ex.Ty,ExL.Ty]
   exact ⟨⟨by decide,by decide⟩,⟨[],.inl ⟨rfl,rfl⟩,by decide⟩,trivial,trivial,trivial⟩
  ·rw [if_neg h1]
   simp only
   have h2:=prepB_ty b (withN T (withN T S (txsOf ps) n).1 b.names (withN T S (txsOf ps) n).2.2).1 (withN T (withN T S (txsOf ps) n).1 b.names (withN T S (txsOf ps) n).2.2).2.1 (withN T (withN T S (txsOf ps) n).1 b.names (withN T S (txsOf ps) n).2.2).2.2 hb
   generalize prepB T b _ _ _=rb at *
   have h3:=prepA_ty a (withN T (withN T S (txsOf ps) n).1 b.names (withN T S (txsOf ps) n).2.2).1 (strictK strF k nm a.len) 0 rb.2 ha
   generalize prepA T a _ _ _ _=ra at *
   have h4:=prepL_ty l (withN T (withN T S (txsOf ps) n).1 b.names (withN T S (txsOf ps) n).2.2).1 ra.2.2 hl
   generalize prepL T l _ _=rl at *
   have ho:(Ex.mk k nm num (slN (withN T S (txsOf ps) n).2.1) rb.1 ra.1 rl.1).Ty:=by
    simp only [Ex.Ty]
    exact ⟨hk,slN_nm (by rw [withN_len]; exact isNm_len hps),h2,h3.1,h4⟩
   generalize (Ex.mk k nm num (slN (withN T S (txsOf ps) n).2.1) rb.1 ra.1 rl.1)=out at *
   obtain ⟨h5,h6⟩:=h3
   unfold wrapE
   split
   ·exact ho
   ·rename_i p x l he
    rw [he] at h6
    simp only [Ex.Ty,ExL.Ty] at h6 ⊢
    exact ⟨⟨by decide,by decide⟩,⟨[],.inl ⟨rfl,rfl⟩,by decide⟩,h6,⟨rfl,ho,trivial⟩,trivial⟩
theorem prepB_ty:∀ (l:ExL) (S:Sco) (ns:List Str) (n:Nat),l.Ty 1→(prepB T l S ns n).1.Ty 1
 | .nil _,_,_,_,_=>by simp only [prepB,ExL.Ty]
 | .cons p x l,S,ns,n,h=>by
  simp only [ExL.Ty] at h
  simp only [prepB,ExL.Ty]
  exact ⟨⟨_,rfl⟩,prepE_ty x S n h.2.1,prepB_ty l S ns.tail _ h.2.2⟩
theorem prepA_ty:∀ (l:ExL) (S:Sco) (k:Int) (i n:Nat),l.Ty 0→(prepA T l S k i n).1.Ty 0∧(prepA T l S k i n).2.1.Ty 1
 | .nil _,_,_,_,_,_=>by simp only [prepA,ExL.Ty]; exact ⟨trivial,trivial⟩
 | .cons p x l,S,k,i,n,h=>by
  simp only [ExL.Ty] at h
  have h1:=prepE_ty x S n h.2.1
  unfold prepA
  simp only
  split
  ·have h2:=prepA_ty l S k (i+1) (nxt T (prepE T x S n).2) h.2.2
   simp only [ExL.Ty]
   refine ⟨⟨rfl,?_,h2.1⟩,⟨_,rfl⟩,h1,h2.2⟩
   simp only [varE,Ex.Ty,ExL.Ty]
   exact ⟨⟨by decide,by decide⟩,⟨[],.inl ⟨rfl,rfl⟩,by decide⟩,trivial,trivial,trivial⟩
  ·have h2:=prepA_ty l S k (i+1) (prepE T x S n).2 h.2.2
   simp only [ExL.Ty]
   exact ⟨⟨rfl,h1,h2.1⟩,h2.2⟩
theorem prepL_ty:∀ (l:ExL) (S:Sco) (n:Nat),l.Ty 4→(prepL T l S n).1.Ty 4
 | .nil _,_,_,_=>by simp only [prepL,ExL.Ty]
 | .cons p x l,S,n,h=>by
  simp only [ExL.Ty] at h
  simp only [prepL,ExL.Ty]
  obtain ⟨vs,h1,h2,h3⟩:=altH_ty (p:=(p,x)) h.1
  refine ⟨⟨_,_,_,_,rfl,slN_nm ?_⟩,prepE_ty x _ _ h.2.1,prepL_ty l S _ h.2.2⟩
  rw [withN_len,h3]
  exact isNm_len h2
end
mutual
theorem prepE_pot:∀ (x:Ex) (S:Sco) (n:Nat),pot T (prepE T x S n).2≤pot T n+x.wt
 | .mk k nm num ps b a l,S,n=>by
  unfold prepE
  by_cases h1:k=1
  ·rw [if_pos h1]; simp only; omega
  ·rw [if_neg h1]
   simp only [Ex.wt]
   have h2:=(withN_pot T (txsOf ps) S n).1
   generalize withN T S (txsOf ps) n=w1 at *
   have h3:=(withN_pot T b.names w1.1 w1.2.2).1
   rw [names_len] at h3
   generalize withN T w1.1 b.names w1.2.2=w2 at *
   have h4:=prepB_pot b w2.1 w2.2.1 w2.2.2
   generalize prepB T b w2.1 w2.2.1 w2.2.2=rb at *
   have h5:=prepA_pot a w2.1 (strictK strF k nm a.len) 0 rb.2
   generalize prepA T a w2.1 (strictK strF k nm a.len) 0 rb.2=ra at *
   have h6:=prepL_pot l w2.1 ra.2.2
   generalize prepL T l w2.1 ra.2.2=rl at *
   omega
theorem prepB_pot:∀ (l:ExL) (S:Sco) (ns:List Str) (n:Nat),pot T (prepB T l S ns n).2≤pot T n+l.wt
 | .nil _,_,_,_=>by simp only [prepB,ExL.wt]; omega
 | .cons p x l,S,ns,n=>by
  simp only [prepB,ExL.wt]
  have h1:=prepE_pot x S n
  have h2:=prepB_pot l S ns.tail (prepE T x S n).2
  omega
theorem prepA_pot:∀ (l:ExL) (S:Sco) (k:Int) (i n:Nat),pot T (prepA T l S k i n).2.2≤pot T n+(l.len+l.wt)
 | .nil _,_,_,_,_=>by simp only [prepA,ExL.wt]; omega
 | .cons p x l,S,k,i,n=>by
  unfold prepA
  simp only [ExL.wt,ExL.len]
  have h1:=prepE_pot x S n
  split
  ·have h2:=prepA_pot l S k (i+1) (nxt T (prepE T x S n).2)
   have h3:=pot_nxt T (prepE T x S n).2
   simp only
   omega
  ·have h2:=prepA_pot l S k (i+1) (prepE T x S n).2
   simp only
   omega
theorem prepL_pot:∀ (l:ExL) (S:Sco) (n:Nat),pot T (prepL T l S n).2≤pot T n+l.wtA
 | .nil _,_,_=>by simp only [prepL,ExL.wtA]; omega
 | .cons p x l,S,n=>by
  simp only [prepL,ExL.wtA]
  have h0:=(withN_pot T (altH (p,x)).vs S n).1
  have h1:=prepE_pot x (withN T S (altH (p,x)).vs n).1 (withN T S (altH (p,x)).vs n).2.2
  have h2:=prepL_pot l S (prepE T x (withN T S (altH (p,x)).vs n).1 (withN T S (altH (p,x)).vs n).2.2).2
  omega
end
theorem prepB_len:∀ (l:ExL) (S:Sco) (ns:List Str) (n:Nat),(prepB T l S ns n).1.len=l.len
 | .nil _,_,_,_=>by simp only [prepB,ExL.len]
 | .cons p x l,S,ns,n=>by simp only [prepB,ExL.len]; rw [prepB_len l]
theorem prepA_len:∀ (l:ExL) (S:Sco) (k:Int) (i n:Nat),(prepA T l S k i n).1.len=l.len
 | .nil _,_,_,_,_=>by simp only [prepA,ExL.len]
 | .cons p x l,S,k,i,n=>by
  unfold prepA
  simp only
  split <;> simp only [ExL.len] <;> rw [prepA_len l]
theorem prepL_len:∀ (l:ExL) (S:Sco) (n:Nat),(prepL T l S n).1.len=l.len
 | .nil _,_,_=>by simp only [prepL,ExL.len]
 | .cons p x l,S,n=>by simp only [prepL,ExL.len]; rw [prepL_len l]
theorem ofL_snoc (L:List (List AV × Ex)) (p:List AV × Ex):(ofL (L++[p])).flat=(ofL L).flat++(p.1++p.2.cells):=by
 rw [ExL.flat_eq,ExL.flat_eq,ofL_list,ofL_list]
 simp
theorem ofL_len (L:List (List AV × Ex)):(ofL L).len=L.length:=by rw [ExL.len_eq,ofL_list]
theorem gr_slice {L:List (List AV × Ex)} {v:AV} {z:Nat} (h0:L.length=0→v = .sn) (h:Grown v z L.length (ofL L).flat):v=(ofL L).slice z:=by
 cases L with
 | nil=>rw [h0 rfl]; rfl
 | cons p L =>
  rcases h with ⟨-,h,-⟩ | h
  ·cases h
  ·rw [h]; simp [ofL,ExL.slice,ExL.flat,ofL_len]
end
end Go.Proofs.YtbemeikjepjhoaaGreatDoor
namespace Go.Proofs.YtbemeikjepjhoaaGreatDoor
open Go.Ev
set_option maxRecDepth 100000
noncomputable section
variable {c : Option Self} {st : St}
def PrepRes (o:Option (AV × St)) (st:St) (mr tr:Nat) (T:List Str) (R:Ex × Nat):Prop:=∃ st',o=some (.ag R.1.cells,st')∧Mk st' mr tr T R.2∧Kp [mr,tr] [mr] st st'
def PrepOK (c:Option Self) (x:Ex):Prop:=x.Ty→x.size≤1000000→∀ (st:St) (mr tr n:Nat) (T:List Str) (sv:AV) (S:Sco) (N:Nat),Mk st mr tr T n→ScV st mr tr sv S→pot T n+x.wt < 1000000→x.size+4000000≤N →
 PrepRes ((Tw c N).call 18 [.p mr 0,.ag x.cells,sv] st) st mr tr T (prepE T x S n)
theorem kp_add {A B A0 B0:List Nat} {a b d:St} (h:Kp A0 B0 a b) (k:Kp A B b d) (hA:∀ x,x ∈ A→x ∈ A0∨a.next≤x) (hB:∀ x,x ∈ B→x ∈ B0∨a.next≤x):Kp A0 B0 a d :=
 ⟨Nat.le_trans h.next k.next,fun r h1 h2=>(k.get r (Nat.lt_of_lt_of_le h1 h.next) fun hh=>by
   rcases hA _ hh with h | h
   ·exact h2 h
   ·omega).trans (h.get r h1 h2),fun g h1 h2=>(k.live g (Nat.lt_of_lt_of_le h1 h.next) fun hh=>by
   rcases hB _ hh with h | h
   ·exact h2 h
   ·omega).trans (h.live g h1 h2)⟩
structure LpS (s s':St) (t':Tr AV) (mr tr rE rR rO:Nat) (T:List Str) (n:Nat) (sv:AV) (S:Sco) (oc:List AV):Prop where
 t0:tget t' 0 = .p mr 0
 t2:tget t' 2=sv
 t4:tget t' 4 = .p rE 0
 t6:tget t' 6 = .p rR 0
 t7:tget t' 7 = .p rO 0
 co:∃ al,s'.ce rO=some (oc,rO,al)
 M:Mk s' mr tr T n
 V:ScV s' mr tr sv S
 K:Kp [mr,tr,rO] [mr,rO] s s'
theorem LpS.fr {s s':St} {t t':Tr AV} {mr tr rE rR rO n n':Nat} {T:List Str} {sv sv':AV} {S S':Sco} {x:Ex} {oc oc':List AV} (h:FrP st s t mr tr rE rR rO T n sv S x oc) (k:LpS s s' t' mr tr rE rR rO T n' sv' S' oc'):FrP st s' t' mr tr rE rR rO T n' sv' S' x oc' :=
 h.keep k.K k.t0 k.t2 k.t4 k.t6 k.t7 k.co k.M k.V
theorem FrP.lp {s:St} {t t':Tr AV} {mr tr rE rR rO n:Nat} {T:List Str} {sv:AV} {S:Sco} {x:Ex} {oc:List AV} (h:FrP st s t mr tr rE rR rO T n sv S x oc) (h0:tget t' 0=tget t 0) (h2:tget t' 2=tget t 2) (h4:tget t' 4=tget t 4) (h6:tget t' 6=tget t 6) (h7:tget t' 7=tget t 7):LpS s s t' mr tr rE rR rO T n sv S oc :=
 ⟨h0.trans h.t0,h2.trans h.t2,h4.trans h.t4,h6.trans h.t6,h7.trans h.t7,h.co,h.M,h.V,.refl _ _ _⟩
def BAt (s:St) (lo:Nat) (T:List Str) (S:Sco) (b:ExL) (ns:List Str) (n0:Nat) (v:AV) (i ni:Nat):Prop :=
 ∃ (acc:List (List AV × Ex)),acc.length=i∧GrO s lo 8 v i (ofL acc).flat ∧
  prepB T b S ns n0=(appL acc (prepB T (dropL b i) S (ns.drop i) ni).1,(prepB T (dropL b i) S (ns.drop i) ni).2)∧pot T ni+(dropL b i).wt≤pot T n0+b.wt
def BSt (s:St) (mr tr rE rR rO:Nat) (T:List Str) (n:Nat) (sv:AV) (S:Sco) (k:Int) (nm:Str) (num:Int) (o3 o5 o6:AV) (b:ExL) (ns:List Str) (i:Nat) (t':Tr AV) (s':St):Prop :=
 ∃ v4 ni,LpS s s' t' mr tr rE rR rO T ni sv S [.i .i64 k,.s nm,.i .i64 num,o3,v4,o5,o6]∧BAt s' s.next T S b ns n v4 i ni
set_option maxHeartbeats 1000000 in
theorem f18_binds {mr tr rE rR rO n:Nat} {T:List Str} {sv:AV} {S:Sco} {k:Int} {nm:Str} {num:Int} {ps:AV} {b a l:ExL} {o3 o5 o6:AV} {ns:List Str} {s:St} {t:Tr AV} (hb:b.Ty 1) (hs:b.size≤1000000) (hIH:∀ p ∈ b.list,PrepOK c p.2) (hns:ns.length=b.len)
  (h:FrP st s t mr tr rE rR rO T n sv S (.mk k nm num ps b a l) [.i .i64 k,.s nm,.i .i64 num,o3,.sn,o5,o6]) (h10:tget t 10=slN ns) (hp:pot T n+b.wt < 1000000) {N:Nat} (hN:b.size+4000000≤N) :
  ∃ t' s' v4,evC (cHd (f18at 7)) ⟨Tryz.prog,Tw c N,false,Tryz.f18.ntmps,N⟩ t s = .nx t' s'∧FrP st s' t' mr tr rE rR rO T (prepB T b S ns n).2 sv S (.mk k nm num ps b a l) [.i .i64 k,.s nm,.i .i64 num,o3,v4,o5,o6]∧GrO s' s.next 8 v4 b.len (prepB T b S ns n).1.flat∧Kp [mr,tr,rO] [mr,rO] s s'∧(∃ L,(prepB T b S ns n).1=ofL L):=by
 obtain ⟨l1,l2,l3,l4⟩:=h.lo
 obtain ⟨m1,m2⟩:=h.ml
 obtain ⟨al,ce⟩:=h.ce
 have hbl:=b.len_le
 have rb:=(exAt ce).b
 have ln:=fun st:St=>len_sl (st:=st) Tryz.underlying23 (b.slice_len 8) (b.slice_text 8)
 have key:∃ t' s',evC (cHd (f18at 7)) ⟨Tryz.prog,Tw c N,false,Tryz.f18.ntmps,N⟩ t s = .nx t' s'∧BSt s mr tr rE rR rO T n sv S k nm num o3 o5 o6 b ns b.list.length t' s':=by
  simp [f18at,f18b,cHd,cTl,Tryz.f18,h.t4,off40_4,load_p inf23 ag23,rb,ln,evC_loop]
  generalize hL:loopC _ _ _ _=L
  obtain ⟨t1,s1,rfl,p0⟩:=loop_use hL 2 b.list.length
   (fun i t' s'=>tget t' 10=slN ns∧tget t' 75=b.slice 8∧tget t' 76 = .i .i64 (b.len:Int)∧tget t' 77 = .i .i64 (i:Int)∧BSt s mr tr rE rR rO T n sv S k nm num o3 o5 o6 b ns i t' s')
   (fun t' s'=>BSt s mr tr rE rR rO T n sv S k nm num o3 o5 o6 b ns b.list.length t' s') (by rw [← ExL.len_eq]; omega)
   ⟨by simp [h10],by simp,by simp,by simp,.sn,n,h.lp (by simp) (by simp) (by simp) (by simp) (by simp),[],rfl,⟨none,fun _=>rfl,.nil _ _ _⟩,by simp [appL,dropL],by simp [dropL]⟩
   (by
    rintro i t' s' hi ⟨i10,i75,i76,i77,v4,ni,iL,acc,q1,⟨g,q0,qO⟩,q3,q4⟩
    clear hL
    have hil:i < b.len:=by rw [ExL.len_eq]; exact hi
    have hin:i < ns.length:=by rw [hns]; exact hil
    have e3:(i:Int) < (b.len:Int):=by omega
    have e4:wr .i64 ((i:Int)+1)=((i+1:Nat):Int):=by rw [wr_in (by omega) (by omega)]; rfl
    obtain ⟨r,r1,r2⟩:=part_at hb.pre (show preLen 1+7=8 from rfl) hi
    have ix:=index_rs (P:=Tryz.prog) Tryz.underlying23 inf42 sz42 b.flat b.len i hil
    rw [← ExL.slice_rs hil,r1,← List.append_assoc] at ix
    have hmem:=List.getElem_mem hi
    have hT:=ExL.ty_list hb _ hmem
    have hsz':=ExL.size_mem hmem
    have hce:(b.list[i].1++b.list[i].2.cells).length=8:=by rw [List.length_append,r2,Ex.cells_len]; rfl
    have hsc:allSc (b.list[i].1++b.list[i].2.cells)=true:=allSc_append hT.1.sc (Ex.cells_sc hT.2.wf)
    have ld:=fun st:St=>load_ms (st:=st) (r:=r) inf42 ag42 sz42 hce
    have hcut:cut (b.list[i].1++b.list[i].2.cells) 1 7=some b.list[i].2.cells:=by
     rw [pre1 hT.1]
     have:=takeN_app b.list[i].2.cells []
     rw [Ex.cells_len,List.append_nil] at this
     simpa using this
    generalize b.list[i].1++b.list[i].2.cells=cl at *
    obtain ⟨s2,u1,u2,u3,u4⟩:=alloc_store (s:=s') (z:=zeroL42) hce hsc
    obtain ⟨al3,co⟩:=iL.co
    have n1:=iL.K.next
    have co2:=u3.ce co (by omega) (by omega) (by simp) (by simp)
    have rO2:rd s2 rO 4 1=some [v4]:=by rw [rd_of co2]; rfl
    have rx:rd s2 s'.next 1 7=some b.list[i].2.cells:=by rw [rd_of u2,hcut]
    obtain ⟨ad,jx,jl⟩:=(slN_sl ns).sat sl36 ag9 hin
    rw [dropL_at b i hi] at q3 q4
    simp only [prepB,ExL.wt] at q3 q4
    have qpot:=prepE_pot T b.list[i].2 S ni
    obtain ⟨s3,f1,f2,f3⟩:=hIH _ hmem hT.2 (by omega) s2 mr tr ni T sv S N (iL.M.keep u3 (by simp) (by simp) (by simp) (by simp)) (iL.V.keep u3 (by simp)) (by omega) (by omega)
    obtain ⟨R,hR⟩:∃ R,prepE T b.list[i].2 S ni=R:=⟨_,rfl⟩
    have tR:=prepE_ty T b.list[i].2 S ni hT.2
    rw [hR] at f1 f2 q3 qpot tR
    have cR:=R.1.cells_len
    have co3:=f3.ce co2 (by have:=u3.next; omega) (by have:=u3.next; omega) (by simp; omega) (by simp; omega)
    have rO3:rd s3 rO 4 1=some [v4]:=by rw [rd_of co3]; rfl
    have bo:=fun (t:Tr AV) (h1:evO t (.tmp 87) = .s ns[i]) (h2:evO t (.tmp 92) = .ag R.1.cells)=>build42 (S:=Tw c N) (st:=s3) (t:=t) h1 h2 cR
    have bo2:=fun (t:Tr AV) (h:evO t (.tmp 93) = .ag (.s ns[i] :: R.1.cells))=>build_one (S:=Tw c N) (t:=t) (st:=s3) gr23 (x:=.tmp 93) (cs:=.s ns[i] :: R.1.cells) (by rw [h]; exact cells_ag _) (by simp [cR])
    have sR:allSc (.s ns[i] :: R.1.cells)=true:=by simp [Ex.cells_sc tR.wf]
    have O3:=(qO.keep u3 (by simp) (by simp)).keep f3 (by simp; omega) (fun x hx=>.inl (by simp at hx; omega))
    obtain ⟨v',g',s4,w1,w2,w3,w4⟩:=O3.app1 gr23 (new:=.s ns[i] :: R.1.cells) sR (by simp [cR]) (by omega) (by have:=u3.next; have:=f3.next; omega)
    have hgl:=qO.g_lt
    have hB4:∀ x,x ∈ g.toList→s.next≤x:=fun x hx=>(hgl x (by simpa using hx)).1
    have co4:=w3.ce co3 (by have:=u3.next; have:=f3.next; omega) (by have:=u3.next; have:=f3.next; omega) (by simp) (fun hh=>by have:=hB4 _ hh; omega)
    have hw:=wt_of co4 4 [v'] (by simp) (by simp [w2.sc])
    simp at hw
    have k5:Kp [rO] [rO] s4 (s4.setCe rO [.i .i64 k,.s nm,.i .i64 num,o3,v',o5,o6] rO):=.setCe (by simp) (by simp)
    have c5:(s4.setCe rO [.i .i64 k,.s nm,.i .i64 num,o3,v',o5,o6] rO).ce rO=some ([.i .i64 k,.s nm,.i .i64 num,o3,v',o5,o6],rO,[rO]):=setCe_ce _ _ _
    obtain ⟨s5,hs5⟩:∃ x,s4.setCe rO [.i .i64 k,.s nm,.i .i64 num,o3,v',o5,o6] rO=x:=⟨_,rfl⟩
    rw [hs5] at hw k5 c5
    have M5:=((f2.keep w3 (by simp) (by simp) (fun hh=>by have:=hB4 _ hh; omega) (by simp)).keep k5 (by simp; omega) (by simp; omega) (by simp; omega) (by simp; omega))
    have V5:=((((iL.V.keep u3 (by simp)).keep f3 (by simp)).keep w3 (by simp)).keep2 (Kp.wide' k5 (by simp) (fun x hx=>hx)) co4)
    have K5:=kp_add (kp_add (kp_add (kp_add iL.K u3 (by simp) (by simp)) f3 (by simp) (by simp)) w3 (by simp) (fun x hx=>.inr (hB4 x hx))) k5 (by simp) (by simp)
    have G5:GrO s5 s.next 8 v' (i+1) (ofL (acc++[([.s ns[i]],R.1)])).flat:=by
     refine ⟨g',fun hh=>by omega,?_⟩
     rw [ofL_snoc]
     have hg':g'≠some rO:=by
      rcases w4 with rfl | ⟨x,rfl,hx⟩
      ·exact fun hh=>by have:=hgl rO hh; omega
      ·intro hh; cases hh; have:=u3.next; have:=f3.next; omega
     exact w2.keep k5 (by simp; omega) (fun x hx=>.inr (by simp at hx; subst hx; exact hg'))
    simp [i75,i76,i77,e3,ix,ld,opH_alloc,zeroC42,store_ag inf42 sz42,hce,u1,evC_draw]
    rw [drawC_eq (fl:=[(1,11),(5,11)])]
    ·simp [iL.t0,iL.t2,iL.t7,i10,i77,off40_4,off42_1,load_p inf23 ag23,rO2,jx,jl,load_ag inf40 ag40,sz40,rx,callF_of Tryz.func18 rfl,f1,bo,bo2,w1,store_p inf23 sz23,w2.cells,hw,e4]
     refine ⟨_,_,⟨rfl,rfl⟩,by simp [i10],by simp [i75],by simp [i76],by simp,v',R.2,⟨by simp [iL.t0],by simp [iL.t2],by simp [iL.t4],by simp [iL.t6],by simp [iL.t7],⟨_,c5⟩,M5,V5,K5⟩,acc++[([.s ns[i]],R.1)],by simp [q1],G5,?_,by omega⟩
     rw [q3,appL_app,List.tail_drop]
     have hh:(ns.drop i).headD []=ns[i]:=by rw [List.drop_eq_getElem_cons hin]; rfl
     rw [hh]
     rfl
    ·kernel_rfl
    ·intro R' hR'
     simp [iL.t0,iL.t2,iL.t7,i10,off40_4,off42_1,load_p inf23 ag23,rO2,jx,jl,load_ag inf40 ag40,sz40,rx,callF_of Tryz.func18 rfl,f1,bo,bo2,w1,store_p inf23 sz23,w2.cells,hw] at hR'
     subst hR'
     simp only [List.all_cons,List.all_nil,Bool.and_true,Bool.and_eq_true]
     refine ⟨recheck_eq rfl rfl rfl (s:=s3) ?_,recheck_eq rfl rfl rfl (s:=s3) ?_⟩
     ·simp [load_p inf23 ag23,rO3]
     ·simp [jl])
   (by
    rintro t' s' ⟨i10,i75,i76,i77,v4,ni,iL,iB⟩
    clear hL
    simp [i76,i77,ExL.len_eq]
    refine ⟨_,_,⟨rfl,rfl⟩,v4,ni,⟨by simp [iL.t0],by simp [iL.t2],by simp [iL.t4],by simp [iL.t6],by simp [iL.t7],iL.co,iL.M,iL.V,iL.K⟩,iB⟩)
  clear hL
  exact ⟨t1,s1,by simp,p0⟩
 obtain ⟨t',s',q1,v4,ni,q2,acc,a1,a2,a4,a5⟩:=key
 obtain ⟨f,hf⟩:=dropL_end b
 rw [hf] at a4
 simp only [prepB,appL_nil] at a4
 refine ⟨t',s',v4,q1,?_,?_,q2.K,acc,by rw [a4]⟩
 ·rw [a4]; exact q2.fr h
 ·rw [a4,ExL.len_eq]
  exact a2
end
end Go.Proofs.YtbemeikjepjhoaaGreatDoor
