/-
  What the checker's other small functions answer: has, only, note, binds. · The checker's note; the names that are bound.
-/
import Derived.Test.YtbemeikjepjhoaaGreatDoorS33
namespace Go.Proofs.YtbemeikjepjhoaaGreatDoor
open Go.Ev
set_option maxRecDepth 100000
noncomputable section
variable {c : Option Self} {st : St}
theorem rp_neq {P:Program} {ty e:TypeId} {x:List AV} {k:Bool} (h:P.underlying ty=some (.pointer e)):Go.Ev.binOp P ty k .neq (.rp x) .pn=some (.b true):=by
 show eqOp P ty k .neq (.rp x) .pn=_
 simp [eqOp,eqV,eqT1,h,eqNil,AV.nilP,orElse]
theorem pn_neq {P:Program} {ty e:TypeId} {k:Bool} (h:P.underlying ty=some (.pointer e)):Go.Ev.binOp P ty k .neq .pn .pn=some (.b false):=by
 show eqOp P ty k .neq .pn .pn=_
 simp [eqOp,eqV,eqT1,h,eqNil,AV.nilP,orElse]
def IsFr:List (List Str)→AV→Prop
 | [],w=>w = .pn
 | l :: sc,w=>∃ v w',w = .rp [v,w']∧(IsSl v (l.map .s)∧l.length≤9223372036854775807)∧IsFr sc w'
theorem IsFr.pure:∀ {sc:List (List Str)} {w:AV},IsFr sc w→pureV w=true
 | [],w,h=>by rw [show w = .pn from h]; rfl
 | l :: sc,w,⟨v,w',h,h1,h2⟩=>by
  rw [h]
  simp [pureV,pureL,h1.1.pure (pure_strs l),IsFr.pure h2]
def hasB (sc:List (List Str)) (s:Str):Bool:=sc.any fun l=>decide (s ∈ l)
theorem has_call (s:Str) {sc:List (List Str)} {w wv:AV} {X:List Nat} (hw:Rds X st w wv) (hf:IsFr sc wv) {N:Nat} (hN:sc.length+10000000000000000002≤N) :
  (Tw c N).call 49 [w,.s s] st=some (.b (hasB sc s),st):=by
 obtain ⟨N,rfl⟩:∃ N',N=N'+1:=⟨N - 1,by omega⟩
 refine body_v (X:=X) rfl rfl (.inr (by decide)) (.cons hw (.cons (.pure rfl) .nil)) Tryz.func49 rfl (Nat.le_of_ble_eq_true rfl) rfl ?_
 unfold bodyR
 simp [Tryz.f49,evC_loop]
 generalize hL:loopC _ _ _ _=L
 have lr:=loop_ret hL 0 sc.length (fun i t _=>∃ w,tget t 0=w∧IsFr (sc.drop i) w∧tget t 1 = .s s∧hasB (sc.take i) s=false) (fun _ _=>hasB sc s=false) (fun t _=>tget t 4 = .b true∧hasB sc s=true) (by omega)
  ⟨wv,by simp,by simpa using hf,by simp,by simp [hasB]⟩
  (by
   rintro i t st hi ⟨w,i0,iF,i1,iN⟩
   clear hL
   rw [List.drop_eq_getElem_cons hi] at iF
   obtain ⟨v,w',rfl,⟨h1,h2⟩,h3⟩:=iF
   have hc:=fun st:St=>contains_call (c:=c) (st:=st) s h1 h2 (N:=N) (by omega)
   by_cases hb:s ∈ sc[i]
   ·right
    simp [i0,i1,rp_neq Tryz.underlying64,off66_0,load_rp inf36 ag36,callF_of Tryz.func27 rfl,hc,hb]
    unfold hasB
    exact List.any_eq_true.2 ⟨sc[i],List.getElem_mem hi,by simpa using hb⟩
   ·left
    simp [i0,i1,rp_neq Tryz.underlying64,off66_0,off66_1,load_rp inf36 ag36,load_rp inf64 ag64,callF_of Tryz.func27 rfl,hc,hb]
    refine ⟨h3,?_⟩
    rw [← List.take_append_getElem hi]
    unfold hasB at *
    simp only [List.any_append,iN]
    simpa using hb)
  (by
   rintro t st ⟨w,i0,iF,i1,iN⟩
   clear hL
   rw [List.drop_length] at iF
   obtain rfl:w = .pn:=iF
   simp [i0,pn_neq Tryz.underlying64]
   simpa using iN)
 clear hL
 rcases lr with ⟨t1,s1,rfl,hT⟩ | ⟨t1,s1,rfl,hT,hF⟩
 ·rw [hT]; simp [resOf_eq,pmapO]
 ·rw [hF]; simp [hT,resOf_eq,pmapO]
def onlyB (fs:Str) (nm:Str) (num:Int) (pn bn an ln:Nat):Bool :=
 (fs.contains 110 || decide (nm=[])) && ((fs.contains 105 || decide (num=0)) && ((fs.contains 112 || decide (pn=0)) && ((fs.contains 98 || decide (bn=0)) && ((fs.contains 97 || decide (an=0)) && (fs.contains 99 || decide (ln=0))))))
theorem only_n (k:Int) (nm:Str) (num:Int) {ps:AV} {l:List Str} (hp:IsSl ps (l.map .s)) (b a al:ExL) (r:List AV) {N:Nat} (hN:2≤N) (hpu:pureL ((Ex.mk k nm num ps b a al).cells++r)=true) :
  (Tw c N).call 48 [.rp ((Ex.mk k nm num ps b a al).cells++r),.s [110]] st=some (.b (onlyB [110] nm num l.length b.len a.len al.len),st):=by
 obtain ⟨N,rfl⟩:∃ N',N=N'+1:=⟨N - 1,by omega⟩
 refine body_v (X:=[]) rfl rfl (.inr (by decide)) (.pure (by simpa [pureL,pureV] using hpu)) Tryz.func48 rfl (Nat.le_of_ble_eq_true rfl) rfl ?_
 unfold bodyR onlyB
 have hce:=newCe_ce (st:=st0) [.s [110]]
 have hk:∀ x,x ∈ [110,105,112,98,97,99]→(Tw c N).call 64 [.s [x],.p st0.next 0] (st0.newCe [.s [110]])=some (.b (([110]:Str).contains x),st0.newCe [.s [110]]):=fun x hx =>
  only1_call (X:=[]) (by simp [onlyFs]) hx (.ptr hce (Nat.lt_succ_self _) (Nat.lt_succ_self _) (by simp) (by simp) (.cons (.pure rfl) .nil)) (by omega)
 have lp:=fun st:St=>hp.sLen (st:=st) sl36
 have lb:=fun st:St=>len_sl (st:=st) Tryz.underlying23 (b.slice_len 8) (b.slice_text 8)
 have la:=fun st:St=>len_sl (st:=st) Tryz.underlying37 (a.slice_len 7) (a.slice_text 7)
 have ll:=fun st:St=>len_sl (st:=st) Tryz.underlying38 (al.slice_len 11) (al.slice_text 11)
 by_cases h2:num=0
 case neg=>simp [Tryz.f48,callF_of Tryz.func64 rfl,hk,off40_2,load_rp inf2 ag2,resOf_eq,pmapO,Ex.cells,h2]
 by_cases h3:l.length=0
 case neg=>simp [Tryz.f48,callF_of Tryz.func64 rfl,hk,off40_2,off40_3,load_rp inf2 ag2,load_rp inf36 ag36,lp,resOf_eq,pmapO,Ex.cells,h2,h3]
 by_cases h4:b.len=0
 case neg=>simp [Tryz.f48,callF_of Tryz.func64 rfl,hk,off40_2,off40_3,off40_4,load_rp inf2 ag2,load_rp inf36 ag36,load_rp inf23 ag23,lp,lb,resOf_eq,pmapO,Ex.cells,h2,h3,h4]
 by_cases h5:a.len=0
 case neg=>simp [Tryz.f48,callF_of Tryz.func64 rfl,hk,off40_2,off40_3,off40_4,off40_5,load_rp inf2 ag2,load_rp inf36 ag36,load_rp inf23 ag23,load_rp inf37 ag37,lp,lb,la,resOf_eq,pmapO,Ex.cells,h2,h3,h4,h5]
 by_cases h6:al.len=0
 case neg=>simp [Tryz.f48,callF_of Tryz.func64 rfl,hk,off40_2,off40_3,off40_4,off40_5,off40_6,load_rp inf2 ag2,load_rp inf36 ag36,load_rp inf23 ag23,load_rp inf37 ag37,load_rp inf38 ag38,lp,lb,la,ll,resOf_eq,pmapO,Ex.cells,h2,h3,h4,h5,h6]
 simp [Tryz.f48,callF_of Tryz.func64 rfl,hk,off40_2,off40_3,off40_4,off40_5,off40_6,load_rp inf2 ag2,load_rp inf36 ag36,load_rp inf23 ag23,load_rp inf37 ag37,load_rp inf38 ag38,lp,lb,la,ll,resOf_eq,pmapO,Ex.cells,h2,h3,h4,h5,h6]
theorem only_i (k:Int) (nm:Str) (num:Int) {ps:AV} {l:List Str} (hp:IsSl ps (l.map .s)) (b a al:ExL) (r:List AV) {N:Nat} (hN:2≤N) (hpu:pureL ((Ex.mk k nm num ps b a al).cells++r)=true) :
  (Tw c N).call 48 [.rp ((Ex.mk k nm num ps b a al).cells++r),.s [105]] st=some (.b (onlyB [105] nm num l.length b.len a.len al.len),st):=by
 obtain ⟨N,rfl⟩:∃ N',N=N'+1:=⟨N - 1,by omega⟩
 refine body_v (X:=[]) rfl rfl (.inr (by decide)) (.pure (by simpa [pureL,pureV] using hpu)) Tryz.func48 rfl (Nat.le_of_ble_eq_true rfl) rfl ?_
 unfold bodyR onlyB
 have hce:=newCe_ce (st:=st0) [.s [105]]
 have hk:∀ x,x ∈ [110,105,112,98,97,99]→(Tw c N).call 64 [.s [x],.p st0.next 0] (st0.newCe [.s [105]])=some (.b (([105]:Str).contains x),st0.newCe [.s [105]]):=fun x hx =>
  only1_call (X:=[]) (by simp [onlyFs]) hx (.ptr hce (Nat.lt_succ_self _) (Nat.lt_succ_self _) (by simp) (by simp) (.cons (.pure rfl) .nil)) (by omega)
 have lp:=fun st:St=>hp.sLen (st:=st) sl36
 have lb:=fun st:St=>len_sl (st:=st) Tryz.underlying23 (b.slice_len 8) (b.slice_text 8)
 have la:=fun st:St=>len_sl (st:=st) Tryz.underlying37 (a.slice_len 7) (a.slice_text 7)
 have ll:=fun st:St=>len_sl (st:=st) Tryz.underlying38 (al.slice_len 11) (al.slice_text 11)
 by_cases h1:nm=[]
 case neg=>simp [Tryz.f48,callF_of Tryz.func64 rfl,hk,off40_1,load_rp inf9 ag9,str_eq,resOf_eq,pmapO,Ex.cells,h1]
 by_cases h3:l.length=0
 case neg=>simp [Tryz.f48,callF_of Tryz.func64 rfl,hk,off40_1,off40_3,load_rp inf9 ag9,load_rp inf36 ag36,str_eq,lp,resOf_eq,pmapO,Ex.cells,h1,h3]
 by_cases h4:b.len=0
 case neg=>simp [Tryz.f48,callF_of Tryz.func64 rfl,hk,off40_1,off40_3,off40_4,load_rp inf9 ag9,load_rp inf36 ag36,load_rp inf23 ag23,str_eq,lp,lb,resOf_eq,pmapO,Ex.cells,h1,h3,h4]
 by_cases h5:a.len=0
 case neg=>simp [Tryz.f48,callF_of Tryz.func64 rfl,hk,off40_1,off40_3,off40_4,off40_5,load_rp inf9 ag9,load_rp inf36 ag36,load_rp inf23 ag23,load_rp inf37 ag37,str_eq,lp,lb,la,resOf_eq,pmapO,Ex.cells,h1,h3,h4,h5]
 by_cases h6:al.len=0
 case neg=>simp [Tryz.f48,callF_of Tryz.func64 rfl,hk,off40_1,off40_3,off40_4,off40_5,off40_6,load_rp inf9 ag9,load_rp inf36 ag36,load_rp inf23 ag23,load_rp inf37 ag37,load_rp inf38 ag38,str_eq,lp,lb,la,ll,resOf_eq,pmapO,Ex.cells,h1,h3,h4,h5,h6]
 simp [Tryz.f48,callF_of Tryz.func64 rfl,hk,off40_1,off40_3,off40_4,off40_5,off40_6,load_rp inf9 ag9,load_rp inf36 ag36,load_rp inf23 ag23,load_rp inf37 ag37,load_rp inf38 ag38,str_eq,lp,lb,la,ll,resOf_eq,pmapO,Ex.cells,h1,h3,h4,h5,h6]
theorem only_na (k:Int) (nm:Str) (num:Int) {ps:AV} {l:List Str} (hp:IsSl ps (l.map .s)) (b a al:ExL) (r:List AV) {N:Nat} (hN:2≤N) (hpu:pureL ((Ex.mk k nm num ps b a al).cells++r)=true) :
  (Tw c N).call 48 [.rp ((Ex.mk k nm num ps b a al).cells++r),.s [110,97]] st=some (.b (onlyB [110,97] nm num l.length b.len a.len al.len),st):=by
 obtain ⟨N,rfl⟩:∃ N',N=N'+1:=⟨N - 1,by omega⟩
 refine body_v (X:=[]) rfl rfl (.inr (by decide)) (.pure (by simpa [pureL,pureV] using hpu)) Tryz.func48 rfl (Nat.le_of_ble_eq_true rfl) rfl ?_
 unfold bodyR onlyB
 have hce:=newCe_ce (st:=st0) [.s [110,97]]
 have hk:∀ x,x ∈ [110,105,112,98,97,99]→(Tw c N).call 64 [.s [x],.p st0.next 0] (st0.newCe [.s [110,97]])=some (.b (([110,97]:Str).contains x),st0.newCe [.s [110,97]]):=fun x hx =>
  only1_call (X:=[]) (by simp [onlyFs]) hx (.ptr hce (Nat.lt_succ_self _) (Nat.lt_succ_self _) (by simp) (by simp) (.cons (.pure rfl) .nil)) (by omega)
 have lp:=fun st:St=>hp.sLen (st:=st) sl36
 have lb:=fun st:St=>len_sl (st:=st) Tryz.underlying23 (b.slice_len 8) (b.slice_text 8)
 have la:=fun st:St=>len_sl (st:=st) Tryz.underlying37 (a.slice_len 7) (a.slice_text 7)
 have ll:=fun st:St=>len_sl (st:=st) Tryz.underlying38 (al.slice_len 11) (al.slice_text 11)
 by_cases h2:num=0
 case neg=>simp [Tryz.f48,callF_of Tryz.func64 rfl,hk,off40_2,load_rp inf2 ag2,resOf_eq,pmapO,Ex.cells,h2]
 by_cases h3:l.length=0
 case neg=>simp [Tryz.f48,callF_of Tryz.func64 rfl,hk,off40_2,off40_3,load_rp inf2 ag2,load_rp inf36 ag36,lp,resOf_eq,pmapO,Ex.cells,h2,h3]
 by_cases h4:b.len=0
 case neg=>simp [Tryz.f48,callF_of Tryz.func64 rfl,hk,off40_2,off40_3,off40_4,load_rp inf2 ag2,load_rp inf36 ag36,load_rp inf23 ag23,lp,lb,resOf_eq,pmapO,Ex.cells,h2,h3,h4]
 by_cases h6:al.len=0
 case neg=>simp [Tryz.f48,callF_of Tryz.func64 rfl,hk,off40_2,off40_3,off40_4,off40_6,load_rp inf2 ag2,load_rp inf36 ag36,load_rp inf23 ag23,load_rp inf38 ag38,lp,lb,ll,resOf_eq,pmapO,Ex.cells,h2,h3,h4,h6]
 simp [Tryz.f48,callF_of Tryz.func64 rfl,hk,off40_2,off40_3,off40_4,off40_6,load_rp inf2 ag2,load_rp inf36 ag36,load_rp inf23 ag23,load_rp inf38 ag38,lp,lb,ll,resOf_eq,pmapO,Ex.cells,h2,h3,h4,h6]
theorem only_pa (k:Int) (nm:Str) (num:Int) {ps:AV} {l:List Str} (hp:IsSl ps (l.map .s)) (b a al:ExL) (r:List AV) {N:Nat} (hN:2≤N) (hpu:pureL ((Ex.mk k nm num ps b a al).cells++r)=true) :
  (Tw c N).call 48 [.rp ((Ex.mk k nm num ps b a al).cells++r),.s [112,97]] st=some (.b (onlyB [112,97] nm num l.length b.len a.len al.len),st):=by
 obtain ⟨N,rfl⟩:∃ N',N=N'+1:=⟨N - 1,by omega⟩
 refine body_v (X:=[]) rfl rfl (.inr (by decide)) (.pure (by simpa [pureL,pureV] using hpu)) Tryz.func48 rfl (Nat.le_of_ble_eq_true rfl) rfl ?_
 unfold bodyR onlyB
 have hce:=newCe_ce (st:=st0) [.s [112,97]]
 have hk:∀ x,x ∈ [110,105,112,98,97,99]→(Tw c N).call 64 [.s [x],.p st0.next 0] (st0.newCe [.s [112,97]])=some (.b (([112,97]:Str).contains x),st0.newCe [.s [112,97]]):=fun x hx =>
  only1_call (X:=[]) (by simp [onlyFs]) hx (.ptr hce (Nat.lt_succ_self _) (Nat.lt_succ_self _) (by simp) (by simp) (.cons (.pure rfl) .nil)) (by omega)
 have lp:=fun st:St=>hp.sLen (st:=st) sl36
 have lb:=fun st:St=>len_sl (st:=st) Tryz.underlying23 (b.slice_len 8) (b.slice_text 8)
 have la:=fun st:St=>len_sl (st:=st) Tryz.underlying37 (a.slice_len 7) (a.slice_text 7)
 have ll:=fun st:St=>len_sl (st:=st) Tryz.underlying38 (al.slice_len 11) (al.slice_text 11)
 by_cases h1:nm=[]
 case neg=>simp [Tryz.f48,callF_of Tryz.func64 rfl,hk,off40_1,load_rp inf9 ag9,str_eq,resOf_eq,pmapO,Ex.cells,h1]
 by_cases h2:num=0
 case neg=>simp [Tryz.f48,callF_of Tryz.func64 rfl,hk,off40_1,off40_2,load_rp inf9 ag9,load_rp inf2 ag2,str_eq,resOf_eq,pmapO,Ex.cells,h1,h2]
 by_cases h4:b.len=0
 case neg=>simp [Tryz.f48,callF_of Tryz.func64 rfl,hk,off40_1,off40_2,off40_4,load_rp inf9 ag9,load_rp inf2 ag2,load_rp inf23 ag23,str_eq,lb,resOf_eq,pmapO,Ex.cells,h1,h2,h4]
 by_cases h6:al.len=0
 case neg=>simp [Tryz.f48,callF_of Tryz.func64 rfl,hk,off40_1,off40_2,off40_4,off40_6,load_rp inf9 ag9,load_rp inf2 ag2,load_rp inf23 ag23,load_rp inf38 ag38,str_eq,lb,ll,resOf_eq,pmapO,Ex.cells,h1,h2,h4,h6]
 simp [Tryz.f48,callF_of Tryz.func64 rfl,hk,off40_1,off40_2,off40_4,off40_6,load_rp inf9 ag9,load_rp inf2 ag2,load_rp inf23 ag23,load_rp inf38 ag38,str_eq,lb,ll,resOf_eq,pmapO,Ex.cells,h1,h2,h4,h6]
theorem only_a (k:Int) (nm:Str) (num:Int) {ps:AV} {l:List Str} (hp:IsSl ps (l.map .s)) (b a al:ExL) (r:List AV) {N:Nat} (hN:2≤N) (hpu:pureL ((Ex.mk k nm num ps b a al).cells++r)=true) :
  (Tw c N).call 48 [.rp ((Ex.mk k nm num ps b a al).cells++r),.s [97]] st=some (.b (onlyB [97] nm num l.length b.len a.len al.len),st):=by
 obtain ⟨N,rfl⟩:∃ N',N=N'+1:=⟨N - 1,by omega⟩
 refine body_v (X:=[]) rfl rfl (.inr (by decide)) (.pure (by simpa [pureL,pureV] using hpu)) Tryz.func48 rfl (Nat.le_of_ble_eq_true rfl) rfl ?_
 unfold bodyR onlyB
 have hce:=newCe_ce (st:=st0) [.s [97]]
 have hk:∀ x,x ∈ [110,105,112,98,97,99]→(Tw c N).call 64 [.s [x],.p st0.next 0] (st0.newCe [.s [97]])=some (.b (([97]:Str).contains x),st0.newCe [.s [97]]):=fun x hx =>
  only1_call (X:=[]) (by simp [onlyFs]) hx (.ptr hce (Nat.lt_succ_self _) (Nat.lt_succ_self _) (by simp) (by simp) (.cons (.pure rfl) .nil)) (by omega)
 have lp:=fun st:St=>hp.sLen (st:=st) sl36
 have lb:=fun st:St=>len_sl (st:=st) Tryz.underlying23 (b.slice_len 8) (b.slice_text 8)
 have la:=fun st:St=>len_sl (st:=st) Tryz.underlying37 (a.slice_len 7) (a.slice_text 7)
 have ll:=fun st:St=>len_sl (st:=st) Tryz.underlying38 (al.slice_len 11) (al.slice_text 11)
 by_cases h1:nm=[]
 case neg=>simp [Tryz.f48,callF_of Tryz.func64 rfl,hk,off40_1,load_rp inf9 ag9,str_eq,resOf_eq,pmapO,Ex.cells,h1]
 by_cases h2:num=0
 case neg=>simp [Tryz.f48,callF_of Tryz.func64 rfl,hk,off40_1,off40_2,load_rp inf9 ag9,load_rp inf2 ag2,str_eq,resOf_eq,pmapO,Ex.cells,h1,h2]
 by_cases h3:l.length=0
 case neg=>simp [Tryz.f48,callF_of Tryz.func64 rfl,hk,off40_1,off40_2,off40_3,load_rp inf9 ag9,load_rp inf2 ag2,load_rp inf36 ag36,str_eq,lp,resOf_eq,pmapO,Ex.cells,h1,h2,h3]
 by_cases h4:b.len=0
 case neg=>simp [Tryz.f48,callF_of Tryz.func64 rfl,hk,off40_1,off40_2,off40_3,off40_4,load_rp inf9 ag9,load_rp inf2 ag2,load_rp inf36 ag36,load_rp inf23 ag23,str_eq,lp,lb,resOf_eq,pmapO,Ex.cells,h1,h2,h3,h4]
 by_cases h6:al.len=0
 case neg=>simp [Tryz.f48,callF_of Tryz.func64 rfl,hk,off40_1,off40_2,off40_3,off40_4,off40_6,load_rp inf9 ag9,load_rp inf2 ag2,load_rp inf36 ag36,load_rp inf23 ag23,load_rp inf38 ag38,str_eq,lp,lb,ll,resOf_eq,pmapO,Ex.cells,h1,h2,h3,h4,h6]
 simp [Tryz.f48,callF_of Tryz.func64 rfl,hk,off40_1,off40_2,off40_3,off40_4,off40_6,load_rp inf9 ag9,load_rp inf2 ag2,load_rp inf36 ag36,load_rp inf23 ag23,load_rp inf38 ag38,str_eq,lp,lb,ll,resOf_eq,pmapO,Ex.cells,h1,h2,h3,h4,h6]
theorem only_ba (k:Int) (nm:Str) (num:Int) {ps:AV} {l:List Str} (hp:IsSl ps (l.map .s)) (b a al:ExL) (r:List AV) {N:Nat} (hN:2≤N) (hpu:pureL ((Ex.mk k nm num ps b a al).cells++r)=true) :
  (Tw c N).call 48 [.rp ((Ex.mk k nm num ps b a al).cells++r),.s [98,97]] st=some (.b (onlyB [98,97] nm num l.length b.len a.len al.len),st):=by
 obtain ⟨N,rfl⟩:∃ N',N=N'+1:=⟨N - 1,by omega⟩
 refine body_v (X:=[]) rfl rfl (.inr (by decide)) (.pure (by simpa [pureL,pureV] using hpu)) Tryz.func48 rfl (Nat.le_of_ble_eq_true rfl) rfl ?_
 unfold bodyR onlyB
 have hce:=newCe_ce (st:=st0) [.s [98,97]]
 have hk:∀ x,x ∈ [110,105,112,98,97,99]→(Tw c N).call 64 [.s [x],.p st0.next 0] (st0.newCe [.s [98,97]])=some (.b (([98,97]:Str).contains x),st0.newCe [.s [98,97]]):=fun x hx =>
  only1_call (X:=[]) (by simp [onlyFs]) hx (.ptr hce (Nat.lt_succ_self _) (Nat.lt_succ_self _) (by simp) (by simp) (.cons (.pure rfl) .nil)) (by omega)
 have lp:=fun st:St=>hp.sLen (st:=st) sl36
 have lb:=fun st:St=>len_sl (st:=st) Tryz.underlying23 (b.slice_len 8) (b.slice_text 8)
 have la:=fun st:St=>len_sl (st:=st) Tryz.underlying37 (a.slice_len 7) (a.slice_text 7)
 have ll:=fun st:St=>len_sl (st:=st) Tryz.underlying38 (al.slice_len 11) (al.slice_text 11)
 by_cases h1:nm=[]
 case neg=>simp [Tryz.f48,callF_of Tryz.func64 rfl,hk,off40_1,load_rp inf9 ag9,str_eq,resOf_eq,pmapO,Ex.cells,h1]
 by_cases h2:num=0
 case neg=>simp [Tryz.f48,callF_of Tryz.func64 rfl,hk,off40_1,off40_2,load_rp inf9 ag9,load_rp inf2 ag2,str_eq,resOf_eq,pmapO,Ex.cells,h1,h2]
 by_cases h3:l.length=0
 case neg=>simp [Tryz.f48,callF_of Tryz.func64 rfl,hk,off40_1,off40_2,off40_3,load_rp inf9 ag9,load_rp inf2 ag2,load_rp inf36 ag36,str_eq,lp,resOf_eq,pmapO,Ex.cells,h1,h2,h3]
 by_cases h6:al.len=0
 case neg=>simp [Tryz.f48,callF_of Tryz.func64 rfl,hk,off40_1,off40_2,off40_3,off40_6,load_rp inf9 ag9,load_rp inf2 ag2,load_rp inf36 ag36,load_rp inf38 ag38,str_eq,lp,ll,resOf_eq,pmapO,Ex.cells,h1,h2,h3,h6]
 simp [Tryz.f48,callF_of Tryz.func64 rfl,hk,off40_1,off40_2,off40_3,off40_6,load_rp inf9 ag9,load_rp inf2 ag2,load_rp inf36 ag36,load_rp inf38 ag38,str_eq,lp,ll,resOf_eq,pmapO,Ex.cells,h1,h2,h3,h6]
theorem only_ac (k:Int) (nm:Str) (num:Int) {ps:AV} {l:List Str} (hp:IsSl ps (l.map .s)) (b a al:ExL) (r:List AV) {N:Nat} (hN:2≤N) (hpu:pureL ((Ex.mk k nm num ps b a al).cells++r)=true) :
  (Tw c N).call 48 [.rp ((Ex.mk k nm num ps b a al).cells++r),.s [97,99]] st=some (.b (onlyB [97,99] nm num l.length b.len a.len al.len),st):=by
 obtain ⟨N,rfl⟩:∃ N',N=N'+1:=⟨N - 1,by omega⟩
 refine body_v (X:=[]) rfl rfl (.inr (by decide)) (.pure (by simpa [pureL,pureV] using hpu)) Tryz.func48 rfl (Nat.le_of_ble_eq_true rfl) rfl ?_
 unfold bodyR onlyB
 have hce:=newCe_ce (st:=st0) [.s [97,99]]
 have hk:∀ x,x ∈ [110,105,112,98,97,99]→(Tw c N).call 64 [.s [x],.p st0.next 0] (st0.newCe [.s [97,99]])=some (.b (([97,99]:Str).contains x),st0.newCe [.s [97,99]]):=fun x hx =>
  only1_call (X:=[]) (by simp [onlyFs]) hx (.ptr hce (Nat.lt_succ_self _) (Nat.lt_succ_self _) (by simp) (by simp) (.cons (.pure rfl) .nil)) (by omega)
 have lp:=fun st:St=>hp.sLen (st:=st) sl36
 have lb:=fun st:St=>len_sl (st:=st) Tryz.underlying23 (b.slice_len 8) (b.slice_text 8)
 have la:=fun st:St=>len_sl (st:=st) Tryz.underlying37 (a.slice_len 7) (a.slice_text 7)
 have ll:=fun st:St=>len_sl (st:=st) Tryz.underlying38 (al.slice_len 11) (al.slice_text 11)
 by_cases h1:nm=[]
 case neg=>simp [Tryz.f48,callF_of Tryz.func64 rfl,hk,off40_1,load_rp inf9 ag9,str_eq,resOf_eq,pmapO,Ex.cells,h1]
 by_cases h2:num=0
 case neg=>simp [Tryz.f48,callF_of Tryz.func64 rfl,hk,off40_1,off40_2,load_rp inf9 ag9,load_rp inf2 ag2,str_eq,resOf_eq,pmapO,Ex.cells,h1,h2]
 by_cases h3:l.length=0
 case neg=>simp [Tryz.f48,callF_of Tryz.func64 rfl,hk,off40_1,off40_2,off40_3,load_rp inf9 ag9,load_rp inf2 ag2,load_rp inf36 ag36,str_eq,lp,resOf_eq,pmapO,Ex.cells,h1,h2,h3]
 by_cases h4:b.len=0
 case neg=>simp [Tryz.f48,callF_of Tryz.func64 rfl,hk,off40_1,off40_2,off40_3,off40_4,load_rp inf9 ag9,load_rp inf2 ag2,load_rp inf36 ag36,load_rp inf23 ag23,str_eq,lp,lb,resOf_eq,pmapO,Ex.cells,h1,h2,h3,h4]
 simp [Tryz.f48,callF_of Tryz.func64 rfl,hk,off40_1,off40_2,off40_3,off40_4,load_rp inf9 ag9,load_rp inf2 ag2,load_rp inf36 ag36,load_rp inf23 ag23,str_eq,lp,lb,resOf_eq,pmapO,Ex.cells,h1,h2,h3,h4]
end
end Go.Proofs.YtbemeikjepjhoaaGreatDoor
namespace Go.Proofs.YtbemeikjepjhoaaGreatDoor
open Go.Ev
set_option maxRecDepth 100000
noncomputable section
variable {c : Option Self} {st : St}
structure Ck (st:St) (cr mr:Nat) (w:Int) (C:Str→Option AV):Prop where
 ce:∃ al,st.ce cr=some ([.m mr,.i .i64 w],cr,al)
 crl:cr < st.next
 mrl:mr < st.next
 ne:mr≠cr
 mp:MpF st mr C
 err:IsErr w
theorem Ck.keep {cr mr:Nat} {w:Int} {C:Str→Option AV} {A B:List Nat} {st':St} (h:Ck st cr mr w C) (k:Kp A B st st') (h1:cr ∉ A) (h2:mr ∉ A) (h3:cr ∉ B):Ck st' cr mr w C:=by
 obtain ⟨al,hc⟩:=h.ce
 exact ⟨⟨al,k.ce hc h.crl h.crl h1 h3⟩,Nat.lt_of_lt_of_le h.crl k.next,Nat.lt_of_lt_of_le h.mrl k.next,h.ne,h.mp.keep k h.mrl h2,h.err⟩
theorem note_call {cr mr:Nat} {w e:Int} {C:Str→Option AV} (is:Bool) (h:Ck st cr mr w C) (he:IsErr e) (he0:e≠0) {N:Nat} (hN:2≤N) :
  ∃ st' w',(Tw c N).call 21 [.p cr 0,.b is,.i .i64 e] st=some (.tu [],st')∧Ck st' cr mr w' C∧Kp [cr] [cr] st st'∧(w'=0↔w=0∧is=false):=by
 obtain ⟨N,rfl⟩:∃ N',N=N'+1:=⟨N - 1,by omega⟩
 rw [body_out rfl Tryz.func21 rfl (Nat.le_of_ble_eq_true rfl)]; unfold bodyR
 obtain ⟨al,hc⟩:=h.ce
 have r1:=fun st:St=>rank_call (c:=c) (st:=st) he (N:=N) (by omega)
 have r2:=fun st:St=>rank_call (c:=c) (st:=st) h.err (N:=N) (by omega)
 cases is with
 | false =>
  refine ⟨st,w,?_,h,.refl _ _ _,by simp⟩
  simp [Tryz.f21,evC_draw]
  rw [drawC_eq (fl:=[(7,0)])]
  ·simp [resOf_eq,pmapO]
  ·kernel_rfl
  ·intro R hR
   simp at hR
   subst hR
   rfl
 | true =>
  have hw:=wt_of hc 1 [.i .i64 e] (by simp) (by simp)
  by_cases hr:rankK w < rankK e
  ·refine ⟨_,e,?_,?_,.setCe (by simp) (by simp) (r:=cr) (l:=[.m mr,.i .i64 e]) (g:=cr),?_⟩
   ·simp [Tryz.f21,evC_draw]
    rw [drawC_eq (fl:=[(7,0)])]
    ·simp [callF_of Tryz.func43 rfl,r1,r2,off69_1,load_p inf28 ag28,rd_of hc,hr,store_p inf28 sz28,hw,resOf_eq,pmapO]
    ·kernel_rfl
    ·intro R hR
     simp [callF_of Tryz.func43 rfl,r1,r2,off69_1,load_p inf28 ag28,rd_of hc,hr] at hR
     subst hR
     simp only [List.all_cons,List.all_nil,Bool.and_true]
     refine recheck_of rfl rfl rfl (u:=.i .i64 w) (s:=st) ?_ (avEq_i _ _)
     simp [load_p inf28 ag28,rd_of hc]
   ·exact ⟨⟨_,setCe_ce _ _ _⟩,h.crl,h.mrl,h.ne,by
     obtain ⟨es,k,h1,h2⟩:=h.mp
     exact ⟨es,k,by rw [setCe_get h.ne]; exact h1,h2⟩,he⟩
   ·simp [he0]
  ·refine ⟨st,w,?_,h,.refl _ _ _,?_⟩
   ·simp [Tryz.f21,evC_draw]
    rw [drawC_eq (fl:=[(7,0)])]
    ·simp [callF_of Tryz.func43 rfl,r1,r2,off69_1,load_p inf28 ag28,rd_of hc,hr,resOf_eq,pmapO]
    ·kernel_rfl
    ·intro R hR
     simp [callF_of Tryz.func43 rfl,r1,r2,off69_1,load_p inf28 ag28,rd_of hc,hr] at hR
     subst hR
     simp only [List.all_cons,List.all_nil,Bool.and_true]
     refine recheck_of rfl rfl rfl (u:=.i .i64 w) (s:=st) ?_ (avEq_i _ _)
     simp [load_p inf28 ag28,rd_of hc]
   ·simp
    rintro rfl
    refine hr ?_
    rcases he with rfl | rfl | rfl | rfl
    ·exact absurd rfl he0
    ·decide
    ·decide
    ·decide
theorem pre1 {p:List AV} (h:preOK 1 p):p=[.s (txOf (p.headD .un))]:=by
 obtain ⟨s,rfl⟩:=h; rfl
theorem names_len (b:ExL):b.names.length=b.len:=by unfold ExL.names; rw [List.length_map,ExL.len_eq]
theorem allSc_strs:∀ l:List Str,allSc (l.map .s)=true
 | []=>rfl
 | s :: l=>by simp [allSc_strs l]
theorem binds_call {b:ExL} (hb:b.Ty 1) (hl:b.len≤1000000) {N:Nat} (hN:10000000000000000000≤N) :
  ∃ w,(Tw c N).call 23 [b.slice 8] st=some (w,st)∧IsSl w (b.names.map .s):=by
 obtain ⟨N,rfl⟩:∃ N',N=N'+1:=⟨N - 1,by omega⟩
 have hp:pureL [b.slice 8]=true:=by simp [pureL,ExL.slice_pure hb 8]
 suffices h:∃ v s g,bodyR c N Tryz.f23 (Tryz.f23.body.getD .skip) [b.slice 8] st0=some (v,s)∧OwZ s 0 1 v b.names.length (b.names.map .s) g by
  obtain ⟨v,s,g,h1,h2⟩:=h
  obtain ⟨w,h3,h4⟩:=h2.fz (Nat.le_refl 0) (Nat.le_refl 1) (FzL.pure (pure_strs b.names))
  have hw:IsSl w (b.names.map .s):=by
   rcases h4 with ⟨rfl,h5,h6⟩ | rfl
   ·exact .inl ⟨rfl,h6⟩
   ·right; rw [List.length_map]
  exact ⟨w,body_z rfl rfl rfl rfl (by decide) hp Tryz.func23 rfl (Nat.le_of_ble_eq_true rfl) (hw.pure (pure_strs _)) ⟨_,_,h1,h3⟩,hw⟩
 unfold bodyR
 have ln:=fun st:St=>len_sl (st:=st) Tryz.underlying23 (b.slice_len 8) (b.slice_text 8)
 simp [Tryz.f23,ln,evC_loop]
 generalize hL:loopC _ _ _ _=L
 obtain ⟨t1,s1,rfl,v,g,q3,qO⟩:=loop_use hL 0 b.list.length
  (fun i t s=>tget t 6=b.slice 8∧tget t 7 = .i .i64 (b.len:Int)∧tget t 8 = .i .i64 (i:Int)∧∃ v g,tget t 3=v∧OwZ s 0 1 v i ((b.names.take i).map .s) g)
  (fun t s=>∃ v g,tget t 3=v∧OwZ s 0 1 v b.names.length (b.names.map .s) g) (by rw [← ExL.len_eq]; omega)
  ⟨by simp,by simp,by simp,.sn,none,by simp,by simpa using OwZ.nil st0 0 1⟩
  (by
   rintro i t s hi ⟨i6,i7,i8,v,g,i3,iO⟩
   clear hL
   have hil:i < b.len:=by rw [ExL.len_eq]; exact hi
   have hin:i < b.names.length:=by rw [names_len]; exact hil
   have e3:(i:Int) < (b.len:Int):=by omega
   have e4:wr .i64 ((i:Int)+1)=((i+1:Nat):Int):=by rw [wr_in (by omega) (by omega)]; rfl
   obtain ⟨r,r1,r2⟩:=part_at hb.pre (show preLen 1+7=8 from rfl) hi
   have ix:=index_rs (P:=Tryz.prog) Tryz.underlying23 inf42 sz42 b.flat b.len i hil
   rw [← ExL.slice_rs hil,r1,← List.append_assoc] at ix
   have hT:=ExL.ty_list hb _ (List.getElem_mem hi)
   have hpr:=pre1 hT.1
   have hnm:b.names[i]=txOf (b.list[i].1.headD .un):=by simp [ExL.names,bname]
   rw [← hnm] at hpr
   have hce:(b.list[i].1++b.list[i].2.cells).length=8:=by rw [List.length_append,r2,Ex.cells_len]; rfl
   have hsc:allSc (b.list[i].1++b.list[i].2.cells)=true:=allSc_append hT.1.sc (Ex.cells_sc hT.2.wf)
   have ld:=fun st:St=>load_ms (st:=st) (r:=r) inf42 ag42 sz42 hce
   have hhd:cut (b.list[i].1++b.list[i].2.cells) 0 1=some [.s b.names[i]]:=by rw [hpr]; rfl
   generalize b.list[i].1++b.list[i].2.cells=cl at *
   obtain ⟨s2,u1,u2,u3,u4⟩:=alloc_store (s:=s) (z:=zeroL42) hce hsc
   have iO2:=iO.keep u3 (by simp) (by simp)
   have bo:=fun (t:Tr AV) (h:evO t (.tmp 14) = .s b.names[i])=>build_one (S:=Tw c N) (t:=t) (st:=s2) gr36 (x:=.tmp 14) (cs:=[.s b.names[i]]) (by rw [h]; simp) rfl
   obtain ⟨v',g',s3,w1,w2,w3,w4⟩:=iO2.app1 gr36 (new:=[.s b.names[i]]) rfl rfl (by omega) (Nat.zero_le _)
   simp [i3,i6,i7,i8,e3,e4,ix,ld,opH_alloc,zeroC42,store_ag inf42 sz42,hce,u1,off42_0,load_p inf9 ag9,rd_of u2,hhd,bo,w1]
   refine ⟨_,_,⟨rfl,rfl⟩,by simp [i6],by simp [i7],by simp,g',?_⟩
   have w5:OwZ s3 0 1 v' (i+1) ((b.names.take (i+1)).map .s) g':=by
    rw [← List.take_append_getElem hin,List.map_append]; exact w2
   simpa using w5)
  (by
   rintro t s ⟨i6,i7,i8,v,g,i3,iO⟩
   clear hL
   simp [i7,i8,ExL.len_eq]
   refine ⟨_,_,⟨rfl,rfl⟩,g,?_⟩
   rw [← ExL.len_eq,← names_len,List.take_length] at iO
   simpa [i3] using iO)
 clear hL
 refine ⟨v,s1,?_,g,qO⟩
 simp [q3,resOf_eq,pmapO]
end
end Go.Proofs.YtbemeikjepjhoaaGreatDoor
