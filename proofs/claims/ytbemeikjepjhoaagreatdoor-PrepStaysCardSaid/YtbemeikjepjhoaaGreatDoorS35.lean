/-
  Alternatives: what the checker tells of them.
-/
import Derived.Test.YtbemeikjepjhoaaGreatDoorS34
namespace Go.Proofs.YtbemeikjepjhoaaGreatDoor
open Go.Ev
set_option maxRecDepth 100000
noncomputable section
variable {c : Option Self} {st : St}
def conV (n:Str) (ar:Int) (ty:Str) (tag:Int):AV:=.ag [.s n,.i .i64 ar,.s ty,.i .i64 tag]
def CWf (C:Str→Option AV):Prop:=∀ s v,C s=some v→∃ n ar ty tag,v=conV n ar ty tag
def conAr:AV→Int
 | .ag [_,.i _ ar,_,_]=>ar
 | _=>0
def conTy:AV→Str
 | .ag [_,_,.s ty,_]=>ty
 | _=>[]
def altsGo (C:Str→Option AV):List AltH→List AltH→Int→Str→Bool→List Str→Bool
 | _,[],_,_,_,_=>true
 | pre,a :: rest,kind,typ,sm,seen =>
  namesOK a.vs && (decide (1≤a.k) && (decide (a.k≤4) &&
   if a.k=4 then rest.isEmpty && (decide (a.vs.length≤1) && (decide (a.n=[]) && (decide (a.m=0) && altsGo C (pre++[a]) rest kind typ sm seen)))
   else (decide (kind=0) || decide (a.k=kind)) &&
    if a.k≠1 then decide (a.n=[]) && (decide (a.vs.length=0) && ((decide (a.k≠3) || (decide (0≤a.m) && decide (a.m≤255))) && (pre.all (fun b=>decide (b.m≠a.m)) && altsGo C (pre++[a]) rest a.k typ sm seen)))
    else decide (a.m=0) && (decide (a.n ∉ seen) && (named a.n && match C a.n with
     | none=>false
     | some v=>decide (conAr v=(a.vs.length:Int)) && ((!sm || decide (conTy v=typ)) && altsGo C (pre++[a]) rest a.k (conTy v) true (seen++[a.n]))))))
def altsOK (C:Str→Option AV) (H:List AltH):Bool:=!H.isEmpty && altsGo C [] H 0 [] false []
theorem mp67:MpTy Tryz.prog 67 35 (.ag [.s [],.i .i64 0,.s [],.i .i64 0]):=⟨⟨9,Tryz.underlying67,Tryz.underlying9⟩,by kernel_rfl⟩
theorem pre4 {p:List AV × Ex} (h:preOK 4 p.1):∃ vs,p.1=[.i .i64 (altH p).k,.s (altH p).n,.i .i64 (altH p).m,vs]∧IsSl vs ((altH p).vs.map .s)∧(altH p).vs.length≤9223372036854775807:=by
 obtain ⟨k,n,m,vs,h1,h2⟩:=h
 obtain ⟨q,x⟩:=p
 simp only at h1
 subst h1
 exact ⟨vs,rfl,h2.sl.1,h2.sl.2⟩
structure AltAt (st s:St) (cr mr sr:Nat) (w w':Int) (C:Str→Option AV) (H:List AltH) (i:Nat) (kind:Int) (typ:Str) (sm:Bool) (seen:List Str):Prop where
 ck:Ck s cr mr w' C
 mp:MpF s sr (seenF seen)
 srl:sr < s.next
 kp:Kp [cr] [cr] st s
 go:(w'=0∧altsGo C (H.take i) (H.drop i) kind typ sm seen=true)↔(w=0∧altsGo C [] H 0 [] false []=true)
def AltInv (st:St) (cr mr sr:Nat) (w:Int) (C:Str→Option AV) (H:List AltH) (v:AV) (i:Nat) (t:Tr AV) (s:St):Prop :=
 tget t 0 = .p cr 0∧tget t 1=v∧tget t 8 = .m sr∧tget t 17=v∧tget t 18 = .i .i64 (H.length:Int)∧tget t 19 = .i .i64 (i:Int) ∧
 ∃ kind typ sm seen w',tget t 5 = .i .i64 kind∧tget t 6 = .s typ∧tget t 7 = .b sm∧AltAt st s cr mr sr w w' C H i kind typ sm seen
def AltEnd (st:St) (cr mr:Nat) (w:Int) (C:Str→Option AV) (H:List AltH) (v:AV) (t:Tr AV) (s:St):Prop :=
 tget t 0 = .p cr 0∧tget t 1=v∧∃ w',Ck s cr mr w' C∧Kp [cr] [cr] st s∧(w'=0↔w=0∧altsGo C [] H 0 [] false []=true)
def AltRet (st:St) (cr mr:Nat) (w:Int) (C:Str→Option AV) (H:List AltH) (t:Tr AV) (s:St):Prop :=
 tget t 4 = .b false∧∃ w',Ck s cr mr w' C∧Kp [cr] [cr] st s∧¬ (w=0∧altsGo C [] H 0 [] false []=true)
def AltsRes (o:Option (AV × St)) (st:St) (cr mr:Nat) (w:Int) (C:Str→Option AV) (H:List AltH):Prop :=
 ∃ b st' w',o=some (.b b,st')∧Ck st' cr mr w' C∧Kp [cr] [cr] st st'∧((b=true∧w'=0)↔(w=0∧altsOK C H=true))
theorem pre_all {H:List AltH} {i:Nat} (m:Int) (h:∀ j (hj:j < H.length),j < i→H[j].m≠m):(H.take i).all (fun b=>decide (b.m≠m))=true:=by
 rw [List.all_eq_true]
 intro b hb
 obtain ⟨j,hj,rfl⟩:=List.getElem_of_mem hb
 have hj':j < H.length:=by simp at hj; omega
 have hji:j < i:=by simp at hj; omega
 rw [List.getElem_take]
 simpa using h j hj' hji
theorem pre_not {H:List AltH} {i j:Nat} (m:Int) (hj:j < H.length) (hji:j < i) (h:H[j].m=m):(H.take i).all (fun b=>decide (b.m≠m))=false:=by
 rw [Bool.eq_false_iff]
 intro hh
 rw [List.all_eq_true] at hh
 have:=hh H[j] (by
  have hq:j < (H.take i).length:=by simp; omega
  rw [← List.getElem_take (h:=hq)]; exact List.getElem_mem hq)
 simp [h] at this
def AltIn (st:St) (cr mr sr:Nat) (w1:Int) (C:Str→Option AV) (H:List AltH) (v:AV) (i:Nat) (ak:Int) (typ:Str) (sm:Bool) (seen:List Str) (am:Int) (fl:List AV) (j:Nat) (t:Tr AV) (s:St):Prop :=
 (tget t 0 = .p cr 0∧tget t 1=v∧tget t 8 = .m sr∧tget t 17=v∧tget t 18 = .i .i64 (H.length:Int)∧tget t 19 = .i .i64 (i:Int)) ∧
 (tget t 5 = .i .i64 ak∧tget t 6 = .s typ∧tget t 7 = .b sm∧tget t 11 = .i .i64 am∧tget t 103 = .rs fl i 11∧tget t 104 = .i .i64 (i:Int)∧tget t 105 = .i .i64 (j:Int)) ∧
 Ck s cr mr w1 C∧MpF s sr (seenF seen)∧sr < s.next∧Kp [cr] [cr] st s∧∀ k (hk:k < H.length),k < j→H[k].m≠am
theorem inner_at {l:ExL} (hT:l.Ty 4) (hH:l.heads.length=l.len) {i j:Nat} (hj:j < l.list.length) (hji:j < i) (hlen:l.len≤1000000) {st s:St} {t:Tr AV} {cr mr sr:Nat} {w1:Int} {C:Str→Option AV} {v:AV} {ak:Int} {typ:Str} {sm:Bool} {seen:List Str} {am:Int}
  (_:AltIn st cr mr sr w1 C l.heads v i ak typ sm seen am l.flat j t s) :
  ∃ cl r s2,indexAddr Tryz.prog 38 (.rs l.flat i 11) (.i .i64 (j:Int))=some (.rp (cl++r))∧(∀ st,loadAt Tryz.prog 80 st (.rp (cl++r))=some (.ag cl))∧wt (s.newCe zeroL80) s.next 0 cl=some s2∧cl.length=11 ∧
   rd s2 s.next 2 1=some [.i .i64 (l.heads[j]'(by rw [hH,ExL.len_eq]; exact hj)).m]∧Kp [] [] s s2∧s.next < s2.next∧True:=by
 have hjl:j < l.len:=by rw [ExL.len_eq]; exact hj
 have hjH:j < l.heads.length:=by rw [hH]; exact hjl
 obtain ⟨r,r1,r2⟩:=part_at hT.pre (show preLen 4+7=11 from rfl) hj
 have ix:=index_rs (P:=Tryz.prog) Tryz.underlying38 inf80 sz80 l.flat i j hji
 rw [r1,← List.append_assoc] at ix
 have hTi:=ExL.ty_list hT _ (List.getElem_mem hj)
 obtain ⟨vs,hp,-⟩:=pre4 hTi.1
 have hce:(l.list[j].1++l.list[j].2.cells).length=11:=by rw [List.length_append,r2,Ex.cells_len]; rfl
 have hsc:allSc (l.list[j].1++l.list[j].2.cells)=true:=allSc_append hTi.1.sc (Ex.cells_sc hTi.2.wf)
 have hg:l.heads[j]=altH l.list[j]:=by simp [ExL.heads]
 rw [← hg] at hp
 have g2:cut (l.list[j].1++l.list[j].2.cells) 2 1=some [.i .i64 l.heads[j].m]:=by rw [hp]; rfl
 obtain ⟨s2,u1,u2,u3,u4⟩:=alloc_store (s:=s) (z:=zeroL80) hce hsc
 exact ⟨_,r,s2,ix,fun st=>load_ms (st:=st) (r:=r) inf80 ag80 sz80 hce,u1,hce,by rw [rd_of u2]; exact g2,u3,u4,trivial⟩
set_option maxHeartbeats 4000000 in
theorem alts_call {l:ExL} (hT:l.Ty 4) (hlen:l.len≤1000000) {cr mr:Nat} {w:Int} {C:Str→Option AV} (hC:CWf C) (hk:Ck st cr mr w C) {N:Nat} (hN:10000000000000000010≤N) :
  AltsRes ((Tw c N).call 50 [.p cr 0,l.slice 11] st) st cr mr w C l.heads:=by
 obtain ⟨N,rfl⟩:∃ N',N=N'+1:=⟨N - 1,by omega⟩
 rw [body_out rfl Tryz.func50 rfl (Nat.le_of_ble_eq_true rfl)]; unfold bodyR
 have hH:l.heads.length=l.len:=by unfold ExL.heads; rw [List.length_map,ExL.len_eq]
 have ln:=fun st:St=>len_sl (st:=st) Tryz.underlying38 (l.slice_len 11) (l.slice_text 11)
 have hm:=MpF.new st
 have km:=Kp.new (st:=st) [] [] (.mp [] 0)
 have kck:=hk.keep km (by simp) (by simp) (by simp)
 obtain ⟨sr,hr⟩:∃ r,st.next=r:=⟨_,rfl⟩
 have hsr:sr < (st.new (.mp [] 0)).next:=by rw [← hr]; exact Nat.lt_succ_self _
 obtain ⟨s0,hs0⟩:∃ s,st.new (.mp [] 0)=s:=⟨_,rfl⟩
 rw [hr,hs0] at hm
 rw [hs0] at km kck hsr
 have crs:cr < sr:=by rw [← hr]; exact hk.crl
 have mrs:mr < sr:=by rw [← hr]; exact hk.mrl
 simp [Tryz.f50,ln,hr,hs0,evC_loop]
 generalize hL:loopC _ _ _ _=L
 have lr:=loop_ret hL 0 l.list.length (AltInv st cr mr sr w C l.heads (l.slice 11)) (AltEnd st cr mr w C l.heads (l.slice 11)) (AltRet st cr mr w C l.heads) (by rw [← ExL.len_eq]; omega)
  (by
   unfold AltInv
   refine ⟨by simp,by simp,by simp,by simp,by simp [hH],by simp,0,[],false,[],w,by simp,by simp,by simp,kck,?_,hsr,km.sub (by simp) (by simp),by simp⟩
   have:seenF []=fun _=>none:=by funext x; simp [seenF]
   rw [this]; exact hm)
  (by
   rintro i t s hi ⟨i0,i1,i8,i17,i18,i19,kind,typ,sm,seen,w1,i5,i6,i7,A⟩
   clear hL
   have hil:i < l.len:=by rw [ExL.len_eq]; exact hi
   have hiH:i < l.heads.length:=by rw [hH]; exact hil
   rw [hH] at i18
   have e3:(i:Int) < (l.len:Int):=by omega
   have e4:wr .i64 ((i:Int)+1)=((i+1:Nat):Int):=by rw [wr_in (by omega) (by omega)]; rfl
   have e5:wr .i64 ((l.len:Int) - 1)=(l.len:Int) - 1:=wr_in (by omega) (by omega)
   obtain ⟨r,r1,r2⟩:=part_at hT.pre (show preLen 4+7=11 from rfl) hi
   have ix:=index_rs (P:=Tryz.prog) Tryz.underlying38 inf80 sz80 l.flat l.len i hil
   rw [← ExL.slice_rs hil,r1,← List.append_assoc] at ix
   have hTi:=ExL.ty_list hT _ (List.getElem_mem hi)
   obtain ⟨vs,hp,hvs,hvl⟩:=pre4 hTi.1
   have hce:(l.list[i].1++l.list[i].2.cells).length=11:=by rw [List.length_append,r2,Ex.cells_len]; rfl
   have hsc:allSc (l.list[i].1++l.list[i].2.cells)=true:=allSc_append hTi.1.sc (Ex.cells_sc hTi.2.wf)
   have ld:=fun st:St=>load_ms (st:=st) (r:=r) inf80 ag80 sz80 hce
   have hg:l.heads[i]=altH l.list[i]:=by simp [ExL.heads]
   rw [← hg] at hp hvs hvl
   have g0:cut (l.list[i].1++l.list[i].2.cells) 0 1=some [.i .i64 l.heads[i].k]:=by rw [hp]; rfl
   have g1:cut (l.list[i].1++l.list[i].2.cells) 1 1=some [.s l.heads[i].n]:=by rw [hp]; rfl
   have g2:cut (l.list[i].1++l.list[i].2.cells) 2 1=some [.i .i64 l.heads[i].m]:=by rw [hp]; rfl
   have g3:cut (l.list[i].1++l.list[i].2.cells) 3 1=some [vs]:=by rw [hp]; rfl
   have hdrop:=List.drop_eq_getElem_cons hiH
   have hgo:=A.go
   rw [hdrop] at hgo
   have htake:l.heads.take (i+1)=l.heads.take i++[l.heads[i]]:=(List.take_append_getElem hiH).symm
   have hlast:(l.heads.drop (i+1)).isEmpty=decide ((i:Int)=(l.len:Int) - 1):=by
    rw [← hH]
    by_cases h:(i:Int)=(l.heads.length:Int) - 1
    ·rw [decide_eq_true h,List.drop_eq_nil_of_le (by omega)]; rfl
    ·rw [decide_eq_false h,List.isEmpty_eq_false_iff,List.ne_nil_iff_length_pos,List.length_drop]; omega
   obtain ⟨cl,hcl⟩:∃ cl,l.list[i].1++l.list[i].2.cells=cl:=⟨_,rfl⟩
   rw [hcl] at ix hce hsc ld g0 g1 g2 g3
   obtain ⟨a,ha⟩:∃ a,l.heads[i]=a:=⟨_,rfl⟩
   rw [ha] at hgo htake g0 g1 g2 hvs hvl
   obtain ⟨ak,an,am,avs⟩:=a
   simp only at g0 g1 g2 hvs hvl
   obtain ⟨s2,u1,u2,u3,u4⟩:=alloc_store (s:=s) (z:=zeroL80) hce hsc
   have kck2:=A.ck.keep u3 (by simp) (by simp) (by simp)
   have kp2:=A.kp.trans (u3.sub (by simp) (by simp))
   have mp2:=A.mp.keep u3 A.srl (by simp)
   have nm:=fun st:St=>names_call (c:=c) (st:=st) hvs hvl (N:=N) (by omega)
   have vl:=fun st:St=>hvs.sLen (st:=st) sl36
   have bad:∀ (t':Tr AV) (w':Int) (s':St),tget t' 4 = .b false→Ck s' cr mr w' C→Kp [cr] [cr] st s'→altsGo C (l.heads.take i) (⟨ak,an,am,avs⟩ :: l.heads.drop (i+1)) kind typ sm seen=false→AltRet st cr mr w C l.heads t' s':=by
    intro t' w' s' h1 h2 h3 h4
    refine ⟨h1,w',h2,h3,fun hh=>?_⟩
    have:=(hgo.2 hh).2
    rw [h4] at this; cases this
   by_cases h1:namesOK avs=true
   case neg =>
    have h1:namesOK avs=false:=by simpa using h1
    right
    simp [i17,i18,i19,e3,ix,ld,opH_alloc,zeroC80,store_ag inf80 sz80,hce,u1,off80_3,load_p inf36 ag36,rd_of u2,g3,callF_of Tryz.func24 rfl,nm,h1]
    exact ⟨_,_,⟨rfl,rfl⟩,bad _ _ _ (by simp) kck2 kp2 (by simp [altsGo,h1])⟩
   by_cases h2:ak < 1
   case pos =>
    have h2':¬ 1≤ak:=by omega
    right
    simp [i17,i18,i19,e3,ix,ld,opH_alloc,zeroC80,store_ag inf80 sz80,hce,u1,off80_0,off80_3,load_p inf3 ag3,load_p inf36 ag36,rd_of u2,g0,g3,callF_of Tryz.func24 rfl,nm,h1,h2]
    exact ⟨_,_,⟨rfl,rfl⟩,bad _ _ _ (by simp) kck2 kp2 (by simp [altsGo,h1,h2'])⟩
   by_cases h3:4 < ak
   case pos =>
    have h3':¬ ak≤4:=by omega
    right
    simp [i17,i18,i19,e3,ix,ld,opH_alloc,zeroC80,store_ag inf80 sz80,hce,u1,off80_0,off80_3,load_p inf3 ag3,load_p inf36 ag36,rd_of u2,g0,g3,callF_of Tryz.func24 rfl,nm,h1,h2,h3]
    exact ⟨_,_,⟨rfl,rfl⟩,bad _ _ _ (by simp) kck2 kp2 (by simp [altsGo,h1,h3'])⟩
   have h23:1≤ak:=by omega
   have h33:ak≤4:=by omega
   by_cases h4:ak=4
   case pos =>
    subst h4
    by_cases h5:(i:Int)=(l.len:Int) - 1
    case neg =>
     right
     simp [i1,i17,i18,i19,e3,e5,ix,ld,opH_alloc,zeroC80,store_ag inf80 sz80,hce,u1,off80_0,off80_3,load_p inf3 ag3,load_p inf36 ag36,rd_of u2,g0,g3,callF_of Tryz.func24 rfl,nm,ln,h1,h5]
     exact ⟨_,_,⟨rfl,rfl⟩,bad _ _ _ (by simp) kck2 kp2 (by simp [altsGo,h1,hlast,h5])⟩
    have p5:(l.len:Int) - 1=(i:Int):=h5.symm
    have p6:wr .i64 (i:Int)=(i:Int):=wr_in (by omega) (by omega)
    by_cases h6:1 < avs.length
    case pos =>
     have h6':(1:Int) < (avs.length:Int):=by omega
     have h6'':¬ avs.length≤1:=by omega
     right
     simp [i1,i17,i18,i19,e3,ix,ld,opH_alloc,zeroC80,store_ag inf80 sz80,hce,u1,off80_0,off80_3,load_p inf3 ag3,load_p inf36 ag36,rd_of u2,g0,g3,callF_of Tryz.func24 rfl,nm,ln,vl,h1,p5,p6,h6']
     exact ⟨_,_,⟨rfl,rfl⟩,bad _ _ _ (by simp) kck2 kp2 (by simp [altsGo,h1,hlast,h5,h6''])⟩
    have h6':¬ (1:Int) < (avs.length:Int):=by omega
    have h6'':avs.length≤1:=by omega
    by_cases h7:an=[]
    case neg =>
     right
     simp [i1,i17,i18,i19,e3,ix,ld,opH_alloc,zeroC80,store_ag inf80 sz80,hce,u1,off80_0,off80_1,off80_3,load_p inf3 ag3,load_p inf9 ag9,load_p inf36 ag36,rd_of u2,g0,g1,g3,callF_of Tryz.func24 rfl,nm,ln,vl,str_ne,h1,p5,p6,h6',h7]
     exact ⟨_,_,⟨rfl,rfl⟩,bad _ _ _ (by simp) kck2 kp2 (by simp [altsGo,h1,hlast,h5,h6'',h7])⟩
    by_cases h8:am=0
    case neg =>
     right
     simp [i1,i17,i18,i19,e3,ix,ld,opH_alloc,zeroC80,store_ag inf80 sz80,hce,u1,off80_0,off80_1,off80_2,off80_3,load_p inf3 ag3,load_p inf9 ag9,load_p inf2 ag2,load_p inf36 ag36,rd_of u2,g0,g1,g2,g3,callF_of Tryz.func24 rfl,nm,ln,vl,str_ne,h1,p5,p6,h6',h7,h8]
     exact ⟨_,_,⟨rfl,rfl⟩,bad _ _ _ (by simp) kck2 kp2 (by simp [altsGo,h1,hlast,h5,h6'',h7,h8])⟩
    left
    simp [i1,i17,i18,i19,e3,e4,ix,ld,opH_alloc,zeroC80,store_ag inf80 sz80,hce,u1,off80_0,off80_1,off80_2,off80_3,load_p inf3 ag3,load_p inf9 ag9,load_p inf2 ag2,load_p inf36 ag36,rd_of u2,g0,g1,g2,g3,callF_of Tryz.func24 rfl,nm,ln,vl,str_ne,h1,p5,p6,h6',h7,h8]
    refine ⟨_,_,⟨rfl,rfl⟩,by simp [i0],by simp [i1],by simp [i8],by simp [i17],by simp [i18,hH],by simp,kind,typ,sm,seen,w1,by simp [i5],by simp [i6],by simp [i7],kck2,mp2,Nat.lt_of_lt_of_le A.srl u3.next,kp2,?_⟩
    rw [htake,← hgo]
    simp [altsGo,h1,hlast,h5,h6'',h7,h8]
   by_cases k0:kind=0
   case pos =>
    by_cases k1:ak=1
    case neg =>
     by_cases n0:an=[]
     case neg =>
      right
      simp [i5,i17,i18,i19,e3,ix,ld,opH_alloc,zeroC80,store_ag inf80 sz80,hce,u1,off80_0,off80_1,off80_3,load_p inf3 ag3,load_p inf9 ag9,load_p inf36 ag36,rd_of u2,g0,g1,g3,callF_of Tryz.func24 rfl,nm,str_ne,h1,h2,h3,h4,k0,k1,n0]
      exact ⟨_,_,⟨rfl,rfl⟩,bad _ _ _ (by simp) kck2 kp2 (by simp [altsGo,h1,h23,h33,h4,k0,k1,n0])⟩
     by_cases v0:avs.length=0
     case neg =>
      right
      simp [i5,i17,i18,i19,e3,ix,ld,opH_alloc,zeroC80,store_ag inf80 sz80,hce,u1,off80_0,off80_1,off80_3,load_p inf3 ag3,load_p inf9 ag9,load_p inf36 ag36,rd_of u2,g0,g1,g3,callF_of Tryz.func24 rfl,nm,vl,str_ne,h1,h2,h3,h4,k0,k1,n0,v0]
      exact ⟨_,_,⟨rfl,rfl⟩,bad _ _ _ (by simp) kck2 kp2 (by simp [altsGo,h1,h23,h33,h4,k0,k1,n0,v0])⟩
     by_cases k3:ak=3
     case pos =>
      by_cases m1:am < 0
      case pos =>
       have m1':¬ 0≤am:=by omega
       right
       simp [i5,i17,i18,i19,e3,ix,ld,opH_alloc,zeroC80,store_ag inf80 sz80,hce,u1,off80_0,off80_1,off80_2,off80_3,load_p inf3 ag3,load_p inf9 ag9,load_p inf2 ag2,load_p inf36 ag36,rd_of u2,g0,g1,g2,g3,callF_of Tryz.func24 rfl,nm,vl,str_ne,h1,k0,n0,v0,k3,m1]
       exact ⟨_,_,⟨rfl,rfl⟩,bad _ _ _ (by simp) kck2 kp2 (by simp [altsGo,h1,k0,n0,v0,k3,m1'])⟩
      by_cases m2:255 < am
      case pos =>
       have m2':¬ am≤255:=by omega
       right
       simp [i5,i17,i18,i19,e3,ix,ld,opH_alloc,zeroC80,store_ag inf80 sz80,hce,u1,off80_0,off80_1,off80_2,off80_3,load_p inf3 ag3,load_p inf9 ag9,load_p inf2 ag2,load_p inf36 ag36,rd_of u2,g0,g1,g2,g3,callF_of Tryz.func24 rfl,nm,vl,str_ne,h1,k0,n0,v0,k3,m1,m2]
       exact ⟨_,_,⟨rfl,rfl⟩,bad _ _ _ (by simp) kck2 kp2 (by simp [altsGo,h1,k0,n0,v0,k3,m2'])⟩
      have m1':0≤am:=by omega
      have m2':am≤255:=by omega
      have sp:=slice_pre (P:=Tryz.prog) (st:=s2) sl38 (c:=l.flat) (n:=l.len) (i:=i) (by omega)
      rw [← ExL.slice_rs hil] at sp
      have ln2:=fun st:St=>len_sl (P:=Tryz.prog) (st:=st) (v:=.rs l.flat i 11) Tryz.underlying38 rfl rfl
      simp [i1,i5,i17,i18,i19,e3,ix,ld,opH_alloc,zeroC80,store_ag inf80 sz80,hce,u1,off80_0,off80_1,off80_2,off80_3,load_p inf3 ag3,load_p inf9 ag9,load_p inf2 ag2,load_p inf36 ag36,rd_of u2,g0,g1,g2,g3,callF_of Tryz.func24 rfl,nm,vl,str_ne,h1,k0,n0,v0,k3,m1,m2,sp,ln2,evC_loop]
      generalize hL2:loopC _ _ _ _=L2
      have lr2:=loop_ret hL2 2 i (AltIn st cr mr sr w1 C l.heads (l.slice 11) i ak typ sm seen am l.flat) (fun t s=>AltIn st cr mr sr w1 C l.heads (l.slice 11) i ak typ sm seen am l.flat i t s) (AltRet st cr mr w C l.heads) (by omega)
       ⟨⟨by simp [i0],by simp [i1],by simp [i8],by simp [i17],by simp [i18,hH],by simp [i19]⟩,⟨by simp [k3],by simp [i6],by simp [i7],by simp,by simp,by simp,by simp⟩,kck2,mp2,Nat.lt_of_lt_of_le A.srl u3.next,kp2,fun j hj h=>by omega⟩
       (by
        rintro j t3 s3 hji B
        clear hL2
        have hj:j < l.list.length:=by omega
        have q:=inner_at hT hH hj hji hlen B
        obtain ⟨cl2,r3,s4,q1,q2,q3,q4,q5,q6,q7,q8⟩:=q
        obtain ⟨⟨j0,j1,j8,j17,j18,j19⟩,⟨j5,j6,j7,j11,j103,j104,j105⟩,jC,jM,jl,jK,jN⟩:=B
        have f3:(j:Int) < (i:Int):=by omega
        have f4:wr .i64 ((j:Int)+1)=((j+1:Nat):Int):=by rw [wr_in (by omega) (by omega)]; rfl
        have hjH:j < l.heads.length:=by omega
        by_cases hm:l.heads[j].m=am
        case pos =>
         right
         rw [hm] at q5
         simp [j11,j103,j104,j105,f3,q1,q2,q3,opH_alloc,zeroC80,store_ag inf80 sz80,q4,off80_2,load_p inf2 ag2,q5]
         have gq:=pre_not am hjH hji hm
         exact ⟨_,_,⟨rfl,rfl⟩,bad _ _ _ (by simp) (jC.keep q6 (by simp) (by simp) (by simp)) (jK.trans (q6.sub (by simp) (by simp))) (by simp only [altsGo,gq]; simp [h1,k0,n0,v0,k3,m1',m2'])⟩
        case neg =>
         left
         simp [j11,j103,j104,j105,f3,f4,q1,q2,q3,opH_alloc,zeroC80,store_ag inf80 sz80,q4,off80_2,load_p inf2 ag2,q5,hm]
         refine ⟨_,_,⟨rfl,rfl⟩,⟨by simp [j0],by simp [j1],by simp [j8],by simp [j17],by simp [j18],by simp [j19]⟩,⟨by simp [j5],by simp [j6],by simp [j7],by simp [j11],by simp [j103],by simp [j104],by simp⟩,jC.keep q6 (by simp) (by simp) (by simp),jM.keep q6 jl (by simp),Nat.lt_of_lt_of_le jl q6.next,jK.trans (q6.sub (by simp) (by simp)),fun k hk h=>?_⟩
         by_cases hkj:k=j
         ·subst hkj; exact hm
         ·exact jN k hk (by omega))
       (by
        rintro t3 s3 B
        clear hL2
        have B':=B
        obtain ⟨⟨j0,j1,j8,j17,j18,j19⟩,⟨j5,j6,j7,j11,j103,j104,j105⟩,jC,jM,jl,jK,jN⟩:=B
        simp [j104,j105]
        exact ⟨_,_,⟨rfl,rfl⟩,⟨by simp [j0],by simp [j1],by simp [j8],by simp [j17],by simp [j18],by simp [j19]⟩,⟨by simp [j5],by simp [j6],by simp [j7],by simp [j11],by simp [j103],by simp [j104],by simp [j105]⟩,jC,jM,jl,jK,jN⟩)
      clear hL2
      rcases lr2 with ⟨t3,s3,rfl,B⟩ | ⟨t3,s3,rfl,B⟩
      ·obtain ⟨⟨j0,j1,j8,j17,j18,j19⟩,⟨j5,j6,j7,j11,j103,j104,j105⟩,jC,jM,jl,jK,jN⟩:=B
       left
       simp [j19,e4]
       refine ⟨_,_,⟨rfl,rfl⟩,by simp [j0],by simp [j1],by simp [j8],by simp [j17],by simp [j18],by simp,ak,typ,sm,seen,w1,by simp [j5],by simp [j6],by simp [j7],jC,jM,jl,jK,?_⟩
       rw [htake,← hgo]
       have gq:=pre_all am jN
       simp only [altsGo,gq]
       simp [h1,k0,n0,v0,k3,m1',m2']
      ·right
       simp
       exact ⟨_,_,⟨rfl,rfl⟩,B⟩
     have sp:=slice_pre (P:=Tryz.prog) (st:=s2) sl38 (c:=l.flat) (n:=l.len) (i:=i) (by omega)
     rw [← ExL.slice_rs hil] at sp
     have ln2:=fun st:St=>len_sl (P:=Tryz.prog) (st:=st) (v:=.rs l.flat i 11) Tryz.underlying38 rfl rfl
     simp [i1,i5,i17,i18,i19,e3,ix,ld,opH_alloc,zeroC80,store_ag inf80 sz80,hce,u1,off80_0,off80_1,off80_2,off80_3,load_p inf3 ag3,load_p inf9 ag9,load_p inf2 ag2,load_p inf36 ag36,rd_of u2,g0,g1,g2,g3,callF_of Tryz.func24 rfl,nm,vl,str_ne,h1,h2,h3,h4,k0,k1,n0,v0,k3,sp,ln2,evC_loop]
     generalize hL2:loopC _ _ _ _=L2
     have lr2:=loop_ret hL2 2 i (AltIn st cr mr sr w1 C l.heads (l.slice 11) i ak typ sm seen am l.flat) (fun t s=>AltIn st cr mr sr w1 C l.heads (l.slice 11) i ak typ sm seen am l.flat i t s) (AltRet st cr mr w C l.heads) (by omega)
      ⟨⟨by simp [i0],by simp [i1],by simp [i8],by simp [i17],by simp [i18,hH],by simp [i19]⟩,⟨by simp,by simp [i6],by simp [i7],by simp,by simp,by simp,by simp⟩,kck2,mp2,Nat.lt_of_lt_of_le A.srl u3.next,kp2,fun j hj h=>by omega⟩
      (by
       rintro j t3 s3 hji B
       clear hL2
       have hj:j < l.list.length:=by omega
       have q:=inner_at hT hH hj hji hlen B
       obtain ⟨cl2,r3,s4,q1,q2,q3,q4,q5,q6,q7,q8⟩:=q
       obtain ⟨⟨j0,j1,j8,j17,j18,j19⟩,⟨j5,j6,j7,j11,j103,j104,j105⟩,jC,jM,jl,jK,jN⟩:=B
       have f3:(j:Int) < (i:Int):=by omega
       have f4:wr .i64 ((j:Int)+1)=((j+1:Nat):Int):=by rw [wr_in (by omega) (by omega)]; rfl
       have hjH:j < l.heads.length:=by omega
       by_cases hm:l.heads[j].m=am
       case pos =>
        right
        rw [hm] at q5
        simp [j11,j103,j104,j105,f3,q1,q2,q3,opH_alloc,zeroC80,store_ag inf80 sz80,q4,off80_2,load_p inf2 ag2,q5]
        have gq:=pre_not am hjH hji hm
        exact ⟨_,_,⟨rfl,rfl⟩,bad _ _ _ (by simp) (jC.keep q6 (by simp) (by simp) (by simp)) (jK.trans (q6.sub (by simp) (by simp))) (by simp only [altsGo,gq]; simp [h1,h23,h33,h4,k0,k1,n0,v0,k3])⟩
       case neg =>
        left
        simp [j11,j103,j104,j105,f3,f4,q1,q2,q3,opH_alloc,zeroC80,store_ag inf80 sz80,q4,off80_2,load_p inf2 ag2,q5,hm]
        refine ⟨_,_,⟨rfl,rfl⟩,⟨by simp [j0],by simp [j1],by simp [j8],by simp [j17],by simp [j18],by simp [j19]⟩,⟨by simp [j5],by simp [j6],by simp [j7],by simp [j11],by simp [j103],by simp [j104],by simp⟩,jC.keep q6 (by simp) (by simp) (by simp),jM.keep q6 jl (by simp),Nat.lt_of_lt_of_le jl q6.next,jK.trans (q6.sub (by simp) (by simp)),fun k hk h=>?_⟩
        by_cases hkj:k=j
        ·subst hkj; exact hm
        ·exact jN k hk (by omega))
      (by
       rintro t3 s3 B
       clear hL2
       have B':=B
       obtain ⟨⟨j0,j1,j8,j17,j18,j19⟩,⟨j5,j6,j7,j11,j103,j104,j105⟩,jC,jM,jl,jK,jN⟩:=B
       simp [j104,j105]
       exact ⟨_,_,⟨rfl,rfl⟩,⟨by simp [j0],by simp [j1],by simp [j8],by simp [j17],by simp [j18],by simp [j19]⟩,⟨by simp [j5],by simp [j6],by simp [j7],by simp [j11],by simp [j103],by simp [j104],by simp [j105]⟩,jC,jM,jl,jK,jN⟩)
     clear hL2
     rcases lr2 with ⟨t3,s3,rfl,B⟩ | ⟨t3,s3,rfl,B⟩
     ·obtain ⟨⟨j0,j1,j8,j17,j18,j19⟩,⟨j5,j6,j7,j11,j103,j104,j105⟩,jC,jM,jl,jK,jN⟩:=B
      left
      simp [j19,e4]
      refine ⟨_,_,⟨rfl,rfl⟩,by simp [j0],by simp [j1],by simp [j8],by simp [j17],by simp [j18],by simp,ak,typ,sm,seen,w1,by simp [j5],by simp [j6],by simp [j7],jC,jM,jl,jK,?_⟩
      rw [htake,← hgo]
      have gq:=pre_all am jN
      simp only [altsGo,gq]
      simp [h1,h23,h33,h4,k0,k1,n0,v0,k3]
     ·right
      simp
      exact ⟨_,_,⟨rfl,rfl⟩,B⟩
    by_cases m0:am=0
    case neg =>
     right
     simp [i5,i17,i18,i19,e3,ix,ld,opH_alloc,zeroC80,store_ag inf80 sz80,hce,u1,off80_0,off80_2,off80_3,load_p inf3 ag3,load_p inf2 ag2,load_p inf36 ag36,rd_of u2,g0,g2,g3,callF_of Tryz.func24 rfl,nm,h1,k0,k1,m0]
     exact ⟨_,_,⟨rfl,rfl⟩,bad _ _ _ (by simp) kck2 kp2 (by simp [altsGo,h1,k0,k1,m0])⟩
    have lk:=mp2.get mp51 an
    rw [seen_get] at lk
    by_cases hs:an ∈ seen
    case pos =>
     right
     simp [i5,i8,i17,i18,i19,e3,ix,ld,opH_alloc,zeroC80,store_ag inf80 sz80,hce,u1,off80_0,off80_1,off80_2,off80_3,load_p inf3 ag3,load_p inf9 ag9,load_p inf2 ag2,load_p inf36 ag36,rd_of u2,g0,g1,g2,g3,callF_of Tryz.func24 rfl,nm,h1,k0,k1,m0,lk,hs]
     exact ⟨_,_,⟨rfl,rfl⟩,bad _ _ _ (by simp) kck2 kp2 (by simp [altsGo,h1,k0,k1,m0,hs])⟩
    have nd:=fun st:St=>named_call (c:=c) (st:=st) an (N:=N) (by omega)
    cases hn:named an with
    | false =>
     right
     simp [i5,i8,i17,i18,i19,e3,ix,ld,opH_alloc,zeroC80,store_ag inf80 sz80,hce,u1,off80_0,off80_1,off80_2,off80_3,load_p inf3 ag3,load_p inf9 ag9,load_p inf2 ag2,load_p inf36 ag36,rd_of u2,g0,g1,g2,g3,callF_of Tryz.func24 rfl,nm,h1,k0,k1,m0,lk,hs,callF_of Tryz.func44 rfl,nd,hn]
     exact ⟨_,_,⟨rfl,rfl⟩,bad _ _ _ (by simp) kck2 kp2 (by simp [altsGo,h1,k0,k1,m0,hs,hn])⟩
    | true =>
     obtain ⟨s3,v1,v2,v3,v4⟩:=mp2.set mp51 an (.b true)
     have hne:s.next ∉ [sr]:=by simp; have:=A.srl; omega
     have hcs:cr ∉ [sr]:=by simp; omega
     have hms:mr ∉ [sr]:=by simp; omega
     have kck3:=kck2.keep v3 hcs hms (by simp)
     have kp3:=kp_new kp2 v3 (by simp; omega) (by simp)
     have u2':=v3.ce u2 u4 u4 hne (by simp)
     have lt3:s.next < s3.next:=by rw [v4]; exact u4
     obtain ⟨al3,hc3⟩:=kck3.ce
     have lk3:=kck3.mp.get2 mp67 an
     have sm3:=seen_upd seen an
     rw [sm3] at v2
     cases hCn:C an with
     | none =>
      rw [hCn] at lk3
      obtain ⟨s4,x1,x2,x3,x4⟩:=alloc_store (s:=s3) (z:=zeroL35) (cells:=zeroL35) rfl rfl
      have kck4:=kck3.keep x3 (by simp) (by simp) (by simp)
      obtain ⟨s5,w5,y1,y2,y3,y4⟩:=note_call (c:=c) true kck4 (e:=9) (by right; right; left; rfl) (by decide) (N:=N) (by omega)
      have z35:zeroL35.length=4:=rfl
      have w5n:w5≠0:=fun h=>by have:=(y4.1 h).2; cases this
      left
      simp [i5,i8,i17,i18,i19,e3,ix,ld,opH_alloc,zeroC80,store_ag inf80 sz80,hce,u1,off80_0,off80_1,off80_2,off80_3,load_p inf3 ag3,load_p inf9 ag9,load_p inf2 ag2,load_p inf36 ag36,rd_of u2,g0,g1,g2,g3,callF_of Tryz.func24 rfl,nm,h1,k0,k1,m0,lk,hs,callF_of Tryz.func44 rfl,nd,hn,v1,evC_draw]
      rw [drawC_nil (by kernel_rfl)]
      have lk3':lookup Tryz.prog 67 s3 (.m mr) (.s an) true=some (.tu [.ag zeroL35,.b false]):=lk3
      simp [i0,i19,off69_0,load_p inf67 ag67,rd_of hc3,off80_1,load_p inf9 ag9,rd_of u2',g1,lk3',opH_alloc,zeroC35,store_ag inf35 sz35,z35,x1,callF_of Tryz.func21 rfl,y1,e4]
      refine ⟨_,_,⟨rfl,rfl⟩,by simp [i0],by simp [i1],by simp [i8],by simp [i17],by simp [i18,hH],by simp,ak,typ,sm,seen++[an],w5,by simp [k1],by simp [i6],by simp [i7],y2,(v2.keep x3 (by rw [v4]; exact Nat.lt_of_lt_of_le A.srl u3.next) (by simp)).keep y3 (Nat.lt_of_lt_of_le (show sr < s3.next by rw [v4]; exact Nat.lt_of_lt_of_le A.srl u3.next) x3.next) (by simp; omega),Nat.lt_of_lt_of_le (Nat.lt_of_lt_of_le (show sr < s3.next by rw [v4]; exact Nat.lt_of_lt_of_le A.srl u3.next) x3.next) y3.next,(kp3.trans (x3.sub (by simp) (by simp))).trans y3,?_⟩
      have gf:altsGo C (l.heads.take i) (⟨ak,an,am,avs⟩ :: l.heads.drop (i+1)) kind typ sm seen=false:=by simp [altsGo,h1,k0,k1,m0,hs,hn,hCn]
      rw [gf] at hgo
      refine ⟨fun h=>absurd h.1 w5n,fun h=>?_⟩
      have:=(hgo.2 h).2
      cases this
     | some cv =>
      obtain ⟨cn,car,cty,ctag,hcv⟩:=hC _ _ hCn
      rw [hCn,hcv] at lk3
      obtain ⟨s4,x1,x2,x3,x4⟩:=alloc_store (s:=s3) (z:=zeroL35) (cells:=[.s cn,.i .i64 car,.s cty,.i .i64 ctag]) rfl rfl
      have kck4:=kck3.keep x3 (by simp) (by simp) (by simp)
      have u4':=x3.ce u2' lt3 lt3 (by simp) (by simp)
      obtain ⟨s5,w5,y1,y2,y3,y4⟩:=note_call (c:=c) (!decide (car=(avs.length:Int))) kck4 (e:=9) (by right; right; left; rfl) (by decide) (N:=N) (by omega)
      have ncr:s3.next ∉ [cr]:=by simp; have:=kck3.crl; omega
      have x2':=y3.ce x2 x4 x4 ncr ncr
      have lk3':lookup Tryz.prog 67 s3 (.m mr) (.s an) true=some (.tu [.ag [.s cn,.i .i64 car,.s cty,.i .i64 ctag],.b true]):=lk3
      have ckF:Ck s5 cr mr w5 C:=y2
      have kpF:Kp [cr] [cr] st s5:=(kp3.trans (x3.sub (by simp) (by simp))).trans y3
      have mpF:MpF s5 sr (seenF (seen++[an])):=(v2.keep x3 (by rw [v4]; exact Nat.lt_of_lt_of_le A.srl u3.next) (by simp)).keep y3 (Nat.lt_of_lt_of_le (show sr < s3.next by rw [v4]; exact Nat.lt_of_lt_of_le A.srl u3.next) x3.next) (by simp; omega)
      have srF:sr < s5.next:=Nat.lt_of_lt_of_le (Nat.lt_of_lt_of_le (show sr < s3.next by rw [v4]; exact Nat.lt_of_lt_of_le A.srl u3.next) x3.next) y3.next
      by_cases ht:sm=true∧cty≠typ
      case pos =>
       obtain ⟨t1,t2⟩:=ht
       right
       simp [i5,i8,i17,i18,i19,e3,ix,ld,opH_alloc,zeroC80,store_ag inf80 sz80,hce,u1,off80_0,off80_1,off80_2,off80_3,load_p inf3 ag3,load_p inf9 ag9,load_p inf2 ag2,load_p inf36 ag36,rd_of u2,g0,g1,g2,g3,callF_of Tryz.func24 rfl,nm,h1,k0,k1,m0,lk,hs,callF_of Tryz.func44 rfl,nd,hn,v1,evC_draw]
       rw [drawC_nil (by kernel_rfl)]
       simp [i0,i6,i7,off69_0,load_p inf67 ag67,rd_of hc3,off80_1,off80_3,off35_1,off35_2,load_p inf9 ag9,load_p inf3 ag3,load_p inf36 ag36,rd_of u2',rd_of u4',rd_of x2,rd_of x2',g1,g3,vl,lk3',opH_alloc,zeroC35,store_ag inf35 sz35,x1,callF_of Tryz.func21 rfl,y1,str_ne,t1,t2]
       exact ⟨_,_,⟨rfl,rfl⟩,bad _ _ _ (by simp) ckF kpF (by simp [altsGo,h1,k0,k1,m0,hs,hn,hCn,hcv,conTy,conV,t1,t2])⟩
      case neg =>
       have hgo':(w1=0∧(car=(avs.length:Int)∧altsGo C (l.heads.take i++[⟨ak,an,am,avs⟩]) (l.heads.drop (i+1)) ak cty true (seen++[an])=true))↔(w=0∧altsGo C [] l.heads 0 [] false []=true):=by
        rw [← hgo]
        have ht':(!sm || decide (cty=typ))=true:=by
         cases sm with
         | false=>rfl
         | true =>
          have:cty=typ:=Classical.byContradiction fun h=>ht ⟨rfl,h⟩
          simp [this]
        simp [altsGo,h1,k0,k1,m0,hs,hn,hCn,hcv,conAr,conTy,conV]
        intro _
        simp only [Bool.or_eq_true,Bool.not_eq_true',decide_eq_true_eq] at ht' ⊢
        constructor
        ·rintro ⟨a1,a2⟩; exact ⟨decide_eq_true a1,ht'.imp id decide_eq_true,a2⟩
        ·rintro ⟨a1,-,a2⟩; exact ⟨of_decide_eq_true a1,a2⟩
       left
       cases sm with
       | false =>
        simp [i5,i8,i17,i18,i19,e3,ix,ld,opH_alloc,zeroC80,store_ag inf80 sz80,hce,u1,off80_0,off80_1,off80_2,off80_3,load_p inf3 ag3,load_p inf9 ag9,load_p inf2 ag2,load_p inf36 ag36,rd_of u2,g0,g1,g2,g3,callF_of Tryz.func24 rfl,nm,h1,k0,k1,m0,lk,hs,callF_of Tryz.func44 rfl,nd,hn,v1,evC_draw]
        rw [drawC_nil (by kernel_rfl)]
        simp [i0,i7,i19,off69_0,load_p inf67 ag67,rd_of hc3,off80_1,off80_3,off35_1,off35_2,load_p inf9 ag9,load_p inf3 ag3,load_p inf36 ag36,rd_of u2',rd_of u4',rd_of x2,rd_of x2',g1,g3,vl,lk3',opH_alloc,zeroC35,store_ag inf35 sz35,x1,callF_of Tryz.func21 rfl,y1,e4]
        refine ⟨_,_,⟨rfl,rfl⟩,by simp [i0],by simp [i1],by simp [i8],by simp [i17],by simp [i18,hH],by simp,ak,cty,true,seen++[an],w5,by simp [k1],by simp,by simp,ckF,mpF,srF,kpF,?_⟩
        rw [htake,← hgo',y4]
        simp [and_assoc]
       | true =>
        have ht2:cty=typ:=Classical.byContradiction fun h=>ht ⟨rfl,h⟩
        subst ht2
        simp [i5,i8,i17,i18,i19,e3,ix,ld,opH_alloc,zeroC80,store_ag inf80 sz80,hce,u1,off80_0,off80_1,off80_2,off80_3,load_p inf3 ag3,load_p inf9 ag9,load_p inf2 ag2,load_p inf36 ag36,rd_of u2,g0,g1,g2,g3,callF_of Tryz.func24 rfl,nm,h1,k0,k1,m0,lk,hs,callF_of Tryz.func44 rfl,nd,hn,v1,evC_draw]
        rw [drawC_nil (by kernel_rfl)]
        simp [i0,i6,i7,i19,off69_0,load_p inf67 ag67,rd_of hc3,off80_1,off80_3,off35_1,off35_2,load_p inf9 ag9,load_p inf3 ag3,load_p inf36 ag36,rd_of u2',rd_of u4',rd_of x2,rd_of x2',g1,g3,vl,lk3',opH_alloc,zeroC35,store_ag inf35 sz35,x1,callF_of Tryz.func21 rfl,y1,str_ne,e4]
        refine ⟨_,_,⟨rfl,rfl⟩,by simp [i0],by simp [i1],by simp [i8],by simp [i17],by simp [i18,hH],by simp,ak,cty,true,seen++[an],w5,by simp [k1],by simp,by simp,ckF,mpF,srF,kpF,?_⟩
        rw [htake,← hgo',y4]
        simp [and_assoc]
   by_cases kk:ak=kind
   case neg =>
    right
    simp [i5,i17,i18,i19,e3,ix,ld,opH_alloc,zeroC80,store_ag inf80 sz80,hce,u1,off80_0,off80_3,load_p inf3 ag3,load_p inf36 ag36,rd_of u2,g0,g3,callF_of Tryz.func24 rfl,nm,h1,h2,h3,h4,k0,kk]
    exact ⟨_,_,⟨rfl,rfl⟩,bad _ _ _ (by simp) kck2 kp2 (by simp [altsGo,h1,h23,h33,h4,k0,kk])⟩
   subst kk
   by_cases k1:ak=1
   case neg =>
    by_cases n0:an=[]
    case neg =>
     right
     simp [i5,i17,i18,i19,e3,ix,ld,opH_alloc,zeroC80,store_ag inf80 sz80,hce,u1,off80_0,off80_1,off80_3,load_p inf3 ag3,load_p inf9 ag9,load_p inf36 ag36,rd_of u2,g0,g1,g3,callF_of Tryz.func24 rfl,nm,str_ne,h1,h2,h3,h4,k0,k1,n0]
     exact ⟨_,_,⟨rfl,rfl⟩,bad _ _ _ (by simp) kck2 kp2 (by simp [altsGo,h1,h23,h33,h4,k0,k1,n0])⟩
    by_cases v0:avs.length=0
    case neg =>
     right
     simp [i5,i17,i18,i19,e3,ix,ld,opH_alloc,zeroC80,store_ag inf80 sz80,hce,u1,off80_0,off80_1,off80_3,load_p inf3 ag3,load_p inf9 ag9,load_p inf36 ag36,rd_of u2,g0,g1,g3,callF_of Tryz.func24 rfl,nm,vl,str_ne,h1,h2,h3,h4,k0,k1,n0,v0]
     exact ⟨_,_,⟨rfl,rfl⟩,bad _ _ _ (by simp) kck2 kp2 (by simp [altsGo,h1,h23,h33,h4,k0,k1,n0,v0])⟩
    by_cases k3:ak=3
    case pos =>
     by_cases m1:am < 0
     case pos =>
      have m1':¬ 0≤am:=by omega
      right
      simp [i5,i17,i18,i19,e3,ix,ld,opH_alloc,zeroC80,store_ag inf80 sz80,hce,u1,off80_0,off80_1,off80_2,off80_3,load_p inf3 ag3,load_p inf9 ag9,load_p inf2 ag2,load_p inf36 ag36,rd_of u2,g0,g1,g2,g3,callF_of Tryz.func24 rfl,nm,vl,str_ne,h1,n0,v0,k3,m1]
      exact ⟨_,_,⟨rfl,rfl⟩,bad _ _ _ (by simp) kck2 kp2 (by simp [altsGo,h1,n0,v0,k3,m1'])⟩
     by_cases m2:255 < am
     case pos =>
      have m2':¬ am≤255:=by omega
      right
      simp [i5,i17,i18,i19,e3,ix,ld,opH_alloc,zeroC80,store_ag inf80 sz80,hce,u1,off80_0,off80_1,off80_2,off80_3,load_p inf3 ag3,load_p inf9 ag9,load_p inf2 ag2,load_p inf36 ag36,rd_of u2,g0,g1,g2,g3,callF_of Tryz.func24 rfl,nm,vl,str_ne,h1,n0,v0,k3,m1,m2]
      exact ⟨_,_,⟨rfl,rfl⟩,bad _ _ _ (by simp) kck2 kp2 (by simp [altsGo,h1,n0,v0,k3,m2'])⟩
     have m1':0≤am:=by omega
     have m2':am≤255:=by omega
     have sp:=slice_pre (P:=Tryz.prog) (st:=s2) sl38 (c:=l.flat) (n:=l.len) (i:=i) (by omega)
     rw [← ExL.slice_rs hil] at sp
     have ln2:=fun st:St=>len_sl (P:=Tryz.prog) (st:=st) (v:=.rs l.flat i 11) Tryz.underlying38 rfl rfl
     simp [i1,i5,i17,i18,i19,e3,ix,ld,opH_alloc,zeroC80,store_ag inf80 sz80,hce,u1,off80_0,off80_1,off80_2,off80_3,load_p inf3 ag3,load_p inf9 ag9,load_p inf2 ag2,load_p inf36 ag36,rd_of u2,g0,g1,g2,g3,callF_of Tryz.func24 rfl,nm,vl,str_ne,h1,n0,v0,k3,m1,m2,sp,ln2,evC_loop]
     generalize hL2:loopC _ _ _ _=L2
     have lr2:=loop_ret hL2 2 i (AltIn st cr mr sr w1 C l.heads (l.slice 11) i ak typ sm seen am l.flat) (fun t s=>AltIn st cr mr sr w1 C l.heads (l.slice 11) i ak typ sm seen am l.flat i t s) (AltRet st cr mr w C l.heads) (by omega)
      ⟨⟨by simp [i0],by simp [i1],by simp [i8],by simp [i17],by simp [i18,hH],by simp [i19]⟩,⟨by simp [k3],by simp [i6],by simp [i7],by simp,by simp,by simp,by simp⟩,kck2,mp2,Nat.lt_of_lt_of_le A.srl u3.next,kp2,fun j hj h=>by omega⟩
      (by
       rintro j t3 s3 hji B
       clear hL2
       have hj:j < l.list.length:=by omega
       have q:=inner_at hT hH hj hji hlen B
       obtain ⟨cl2,r3,s4,q1,q2,q3,q4,q5,q6,q7,q8⟩:=q
       obtain ⟨⟨j0,j1,j8,j17,j18,j19⟩,⟨j5,j6,j7,j11,j103,j104,j105⟩,jC,jM,jl,jK,jN⟩:=B
       have f3:(j:Int) < (i:Int):=by omega
       have f4:wr .i64 ((j:Int)+1)=((j+1:Nat):Int):=by rw [wr_in (by omega) (by omega)]; rfl
       have hjH:j < l.heads.length:=by omega
       by_cases hm:l.heads[j].m=am
       case pos =>
        right
        rw [hm] at q5
        simp [j11,j103,j104,j105,f3,q1,q2,q3,opH_alloc,zeroC80,store_ag inf80 sz80,q4,off80_2,load_p inf2 ag2,q5]
        have gq:=pre_not am hjH hji hm
        exact ⟨_,_,⟨rfl,rfl⟩,bad _ _ _ (by simp) (jC.keep q6 (by simp) (by simp) (by simp)) (jK.trans (q6.sub (by simp) (by simp))) (by simp only [altsGo,gq]; simp [h1,n0,v0,k3,m1',m2'])⟩
       case neg =>
        left
        simp [j11,j103,j104,j105,f3,f4,q1,q2,q3,opH_alloc,zeroC80,store_ag inf80 sz80,q4,off80_2,load_p inf2 ag2,q5,hm]
        refine ⟨_,_,⟨rfl,rfl⟩,⟨by simp [j0],by simp [j1],by simp [j8],by simp [j17],by simp [j18],by simp [j19]⟩,⟨by simp [j5],by simp [j6],by simp [j7],by simp [j11],by simp [j103],by simp [j104],by simp⟩,jC.keep q6 (by simp) (by simp) (by simp),jM.keep q6 jl (by simp),Nat.lt_of_lt_of_le jl q6.next,jK.trans (q6.sub (by simp) (by simp)),fun k hk h=>?_⟩
        by_cases hkj:k=j
        ·subst hkj; exact hm
        ·exact jN k hk (by omega))
      (by
       rintro t3 s3 B
       clear hL2
       have B':=B
       obtain ⟨⟨j0,j1,j8,j17,j18,j19⟩,⟨j5,j6,j7,j11,j103,j104,j105⟩,jC,jM,jl,jK,jN⟩:=B
       simp [j104,j105]
       exact ⟨_,_,⟨rfl,rfl⟩,⟨by simp [j0],by simp [j1],by simp [j8],by simp [j17],by simp [j18],by simp [j19]⟩,⟨by simp [j5],by simp [j6],by simp [j7],by simp [j11],by simp [j103],by simp [j104],by simp [j105]⟩,jC,jM,jl,jK,jN⟩)
     clear hL2
     rcases lr2 with ⟨t3,s3,rfl,B⟩ | ⟨t3,s3,rfl,B⟩
     ·obtain ⟨⟨j0,j1,j8,j17,j18,j19⟩,⟨j5,j6,j7,j11,j103,j104,j105⟩,jC,jM,jl,jK,jN⟩:=B
      left
      simp [j19,e4]
      refine ⟨_,_,⟨rfl,rfl⟩,by simp [j0],by simp [j1],by simp [j8],by simp [j17],by simp [j18],by simp,ak,typ,sm,seen,w1,by simp [j5],by simp [j6],by simp [j7],jC,jM,jl,jK,?_⟩
      rw [htake,← hgo]
      have gq:=pre_all am jN
      simp only [altsGo,gq]
      simp [h1,n0,v0,k3,m1',m2']
     ·right
      simp
      exact ⟨_,_,⟨rfl,rfl⟩,B⟩
    have sp:=slice_pre (P:=Tryz.prog) (st:=s2) sl38 (c:=l.flat) (n:=l.len) (i:=i) (by omega)
    rw [← ExL.slice_rs hil] at sp
    have ln2:=fun st:St=>len_sl (P:=Tryz.prog) (st:=st) (v:=.rs l.flat i 11) Tryz.underlying38 rfl rfl
    simp [i1,i5,i17,i18,i19,e3,ix,ld,opH_alloc,zeroC80,store_ag inf80 sz80,hce,u1,off80_0,off80_1,off80_2,off80_3,load_p inf3 ag3,load_p inf9 ag9,load_p inf2 ag2,load_p inf36 ag36,rd_of u2,g0,g1,g2,g3,callF_of Tryz.func24 rfl,nm,vl,str_ne,h1,h2,h3,h4,k0,k1,n0,v0,k3,sp,ln2,evC_loop]
    generalize hL2:loopC _ _ _ _=L2
    have lr2:=loop_ret hL2 2 i (AltIn st cr mr sr w1 C l.heads (l.slice 11) i ak typ sm seen am l.flat) (fun t s=>AltIn st cr mr sr w1 C l.heads (l.slice 11) i ak typ sm seen am l.flat i t s) (AltRet st cr mr w C l.heads) (by omega)
     ⟨⟨by simp [i0],by simp [i1],by simp [i8],by simp [i17],by simp [i18,hH],by simp [i19]⟩,⟨by simp,by simp [i6],by simp [i7],by simp,by simp,by simp,by simp⟩,kck2,mp2,Nat.lt_of_lt_of_le A.srl u3.next,kp2,fun j hj h=>by omega⟩
     (by
      rintro j t3 s3 hji B
      clear hL2
      have hj:j < l.list.length:=by omega
      have q:=inner_at hT hH hj hji hlen B
      obtain ⟨cl2,r3,s4,q1,q2,q3,q4,q5,q6,q7,q8⟩:=q
      obtain ⟨⟨j0,j1,j8,j17,j18,j19⟩,⟨j5,j6,j7,j11,j103,j104,j105⟩,jC,jM,jl,jK,jN⟩:=B
      have f3:(j:Int) < (i:Int):=by omega
      have f4:wr .i64 ((j:Int)+1)=((j+1:Nat):Int):=by rw [wr_in (by omega) (by omega)]; rfl
      have hjH:j < l.heads.length:=by omega
      by_cases hm:l.heads[j].m=am
      case pos =>
       right
       rw [hm] at q5
       simp [j11,j103,j104,j105,f3,q1,q2,q3,opH_alloc,zeroC80,store_ag inf80 sz80,q4,off80_2,load_p inf2 ag2,q5]
       have gq:=pre_not am hjH hji hm
       exact ⟨_,_,⟨rfl,rfl⟩,bad _ _ _ (by simp) (jC.keep q6 (by simp) (by simp) (by simp)) (jK.trans (q6.sub (by simp) (by simp))) (by simp only [altsGo,gq]; simp [h1,h23,h33,h4,k0,k1,n0,v0,k3])⟩
      case neg =>
       left
       simp [j11,j103,j104,j105,f3,f4,q1,q2,q3,opH_alloc,zeroC80,store_ag inf80 sz80,q4,off80_2,load_p inf2 ag2,q5,hm]
       refine ⟨_,_,⟨rfl,rfl⟩,⟨by simp [j0],by simp [j1],by simp [j8],by simp [j17],by simp [j18],by simp [j19]⟩,⟨by simp [j5],by simp [j6],by simp [j7],by simp [j11],by simp [j103],by simp [j104],by simp⟩,jC.keep q6 (by simp) (by simp) (by simp),jM.keep q6 jl (by simp),Nat.lt_of_lt_of_le jl q6.next,jK.trans (q6.sub (by simp) (by simp)),fun k hk h=>?_⟩
       by_cases hkj:k=j
       ·subst hkj; exact hm
       ·exact jN k hk (by omega))
     (by
      rintro t3 s3 B
      clear hL2
      have B':=B
      obtain ⟨⟨j0,j1,j8,j17,j18,j19⟩,⟨j5,j6,j7,j11,j103,j104,j105⟩,jC,jM,jl,jK,jN⟩:=B
      simp [j104,j105]
      exact ⟨_,_,⟨rfl,rfl⟩,⟨by simp [j0],by simp [j1],by simp [j8],by simp [j17],by simp [j18],by simp [j19]⟩,⟨by simp [j5],by simp [j6],by simp [j7],by simp [j11],by simp [j103],by simp [j104],by simp [j105]⟩,jC,jM,jl,jK,jN⟩)
    clear hL2
    rcases lr2 with ⟨t3,s3,rfl,B⟩ | ⟨t3,s3,rfl,B⟩
    ·obtain ⟨⟨j0,j1,j8,j17,j18,j19⟩,⟨j5,j6,j7,j11,j103,j104,j105⟩,jC,jM,jl,jK,jN⟩:=B
     left
     simp [j19,e4]
     refine ⟨_,_,⟨rfl,rfl⟩,by simp [j0],by simp [j1],by simp [j8],by simp [j17],by simp [j18],by simp,ak,typ,sm,seen,w1,by simp [j5],by simp [j6],by simp [j7],jC,jM,jl,jK,?_⟩
     rw [htake,← hgo]
     have gq:=pre_all am jN
     simp only [altsGo,gq]
     simp [h1,h23,h33,h4,k0,k1,n0,v0,k3]
    ·right
     simp
     exact ⟨_,_,⟨rfl,rfl⟩,B⟩
   by_cases m0:am=0
   case neg =>
    right
    simp [i5,i17,i18,i19,e3,ix,ld,opH_alloc,zeroC80,store_ag inf80 sz80,hce,u1,off80_0,off80_2,off80_3,load_p inf3 ag3,load_p inf2 ag2,load_p inf36 ag36,rd_of u2,g0,g2,g3,callF_of Tryz.func24 rfl,nm,h1,k1,m0]
    exact ⟨_,_,⟨rfl,rfl⟩,bad _ _ _ (by simp) kck2 kp2 (by simp [altsGo,h1,k1,m0])⟩
   have lk:=mp2.get mp51 an
   rw [seen_get] at lk
   by_cases hs:an ∈ seen
   case pos =>
    right
    simp [i5,i8,i17,i18,i19,e3,ix,ld,opH_alloc,zeroC80,store_ag inf80 sz80,hce,u1,off80_0,off80_1,off80_2,off80_3,load_p inf3 ag3,load_p inf9 ag9,load_p inf2 ag2,load_p inf36 ag36,rd_of u2,g0,g1,g2,g3,callF_of Tryz.func24 rfl,nm,h1,k1,m0,lk,hs]
    exact ⟨_,_,⟨rfl,rfl⟩,bad _ _ _ (by simp) kck2 kp2 (by simp [altsGo,h1,k1,m0,hs])⟩
   have nd:=fun st:St=>named_call (c:=c) (st:=st) an (N:=N) (by omega)
   cases hn:named an with
   | false =>
    right
    simp [i5,i8,i17,i18,i19,e3,ix,ld,opH_alloc,zeroC80,store_ag inf80 sz80,hce,u1,off80_0,off80_1,off80_2,off80_3,load_p inf3 ag3,load_p inf9 ag9,load_p inf2 ag2,load_p inf36 ag36,rd_of u2,g0,g1,g2,g3,callF_of Tryz.func24 rfl,nm,h1,k1,m0,lk,hs,callF_of Tryz.func44 rfl,nd,hn]
    exact ⟨_,_,⟨rfl,rfl⟩,bad _ _ _ (by simp) kck2 kp2 (by simp [altsGo,h1,k1,m0,hs,hn])⟩
   | true =>
    obtain ⟨s3,v1,v2,v3,v4⟩:=mp2.set mp51 an (.b true)
    have hne:s.next ∉ [sr]:=by simp; have:=A.srl; omega
    have hcs:cr ∉ [sr]:=by simp; omega
    have hms:mr ∉ [sr]:=by simp; omega
    have kck3:=kck2.keep v3 hcs hms (by simp)
    have kp3:=kp_new kp2 v3 (by simp; omega) (by simp)
    have u2':=v3.ce u2 u4 u4 hne (by simp)
    have lt3:s.next < s3.next:=by rw [v4]; exact u4
    obtain ⟨al3,hc3⟩:=kck3.ce
    have lk3:=kck3.mp.get2 mp67 an
    have sm3:=seen_upd seen an
    rw [sm3] at v2
    cases hCn:C an with
    | none =>
     rw [hCn] at lk3
     obtain ⟨s4,x1,x2,x3,x4⟩:=alloc_store (s:=s3) (z:=zeroL35) (cells:=zeroL35) rfl rfl
     have kck4:=kck3.keep x3 (by simp) (by simp) (by simp)
     obtain ⟨s5,w5,y1,y2,y3,y4⟩:=note_call (c:=c) true kck4 (e:=9) (by right; right; left; rfl) (by decide) (N:=N) (by omega)
     have z35:zeroL35.length=4:=rfl
     have w5n:w5≠0:=fun h=>by have:=(y4.1 h).2; cases this
     left
     simp [i5,i8,i17,i18,i19,e3,ix,ld,opH_alloc,zeroC80,store_ag inf80 sz80,hce,u1,off80_0,off80_1,off80_2,off80_3,load_p inf3 ag3,load_p inf9 ag9,load_p inf2 ag2,load_p inf36 ag36,rd_of u2,g0,g1,g2,g3,callF_of Tryz.func24 rfl,nm,h1,k1,m0,lk,hs,callF_of Tryz.func44 rfl,nd,hn,v1,evC_draw]
     rw [drawC_nil (by kernel_rfl)]
     have lk3':lookup Tryz.prog 67 s3 (.m mr) (.s an) true=some (.tu [.ag zeroL35,.b false]):=lk3
     simp [i0,i19,off69_0,load_p inf67 ag67,rd_of hc3,off80_1,load_p inf9 ag9,rd_of u2',g1,lk3',opH_alloc,zeroC35,store_ag inf35 sz35,z35,x1,callF_of Tryz.func21 rfl,y1,e4]
     refine ⟨_,_,⟨rfl,rfl⟩,by simp [i0],by simp [i1],by simp [i8],by simp [i17],by simp [i18,hH],by simp,ak,typ,sm,seen++[an],w5,by simp [k1],by simp [i6],by simp [i7],y2,(v2.keep x3 (by rw [v4]; exact Nat.lt_of_lt_of_le A.srl u3.next) (by simp)).keep y3 (Nat.lt_of_lt_of_le (show sr < s3.next by rw [v4]; exact Nat.lt_of_lt_of_le A.srl u3.next) x3.next) (by simp; omega),Nat.lt_of_lt_of_le (Nat.lt_of_lt_of_le (show sr < s3.next by rw [v4]; exact Nat.lt_of_lt_of_le A.srl u3.next) x3.next) y3.next,(kp3.trans (x3.sub (by simp) (by simp))).trans y3,?_⟩
     have gf:altsGo C (l.heads.take i) (⟨ak,an,am,avs⟩ :: l.heads.drop (i+1)) ak typ sm seen=false:=by simp [altsGo,h1,k1,m0,hs,hn,hCn]
     rw [gf] at hgo
     refine ⟨fun h=>absurd h.1 w5n,fun h=>?_⟩
     have:=(hgo.2 h).2
     cases this
    | some cv =>
     obtain ⟨cn,car,cty,ctag,hcv⟩:=hC _ _ hCn
     rw [hCn,hcv] at lk3
     obtain ⟨s4,x1,x2,x3,x4⟩:=alloc_store (s:=s3) (z:=zeroL35) (cells:=[.s cn,.i .i64 car,.s cty,.i .i64 ctag]) rfl rfl
     have kck4:=kck3.keep x3 (by simp) (by simp) (by simp)
     have u4':=x3.ce u2' lt3 lt3 (by simp) (by simp)
     obtain ⟨s5,w5,y1,y2,y3,y4⟩:=note_call (c:=c) (!decide (car=(avs.length:Int))) kck4 (e:=9) (by right; right; left; rfl) (by decide) (N:=N) (by omega)
     have ncr:s3.next ∉ [cr]:=by simp; have:=kck3.crl; omega
     have x2':=y3.ce x2 x4 x4 ncr ncr
     have lk3':lookup Tryz.prog 67 s3 (.m mr) (.s an) true=some (.tu [.ag [.s cn,.i .i64 car,.s cty,.i .i64 ctag],.b true]):=lk3
     have ckF:Ck s5 cr mr w5 C:=y2
     have kpF:Kp [cr] [cr] st s5:=(kp3.trans (x3.sub (by simp) (by simp))).trans y3
     have mpF:MpF s5 sr (seenF (seen++[an])):=(v2.keep x3 (by rw [v4]; exact Nat.lt_of_lt_of_le A.srl u3.next) (by simp)).keep y3 (Nat.lt_of_lt_of_le (show sr < s3.next by rw [v4]; exact Nat.lt_of_lt_of_le A.srl u3.next) x3.next) (by simp; omega)
     have srF:sr < s5.next:=Nat.lt_of_lt_of_le (Nat.lt_of_lt_of_le (show sr < s3.next by rw [v4]; exact Nat.lt_of_lt_of_le A.srl u3.next) x3.next) y3.next
     by_cases ht:sm=true∧cty≠typ
     case pos =>
      obtain ⟨t1,t2⟩:=ht
      right
      simp [i5,i8,i17,i18,i19,e3,ix,ld,opH_alloc,zeroC80,store_ag inf80 sz80,hce,u1,off80_0,off80_1,off80_2,off80_3,load_p inf3 ag3,load_p inf9 ag9,load_p inf2 ag2,load_p inf36 ag36,rd_of u2,g0,g1,g2,g3,callF_of Tryz.func24 rfl,nm,h1,k1,m0,lk,hs,callF_of Tryz.func44 rfl,nd,hn,v1,evC_draw]
      rw [drawC_nil (by kernel_rfl)]
      simp [i0,i6,i7,off69_0,load_p inf67 ag67,rd_of hc3,off80_1,off80_3,off35_1,off35_2,load_p inf9 ag9,load_p inf3 ag3,load_p inf36 ag36,rd_of u2',rd_of u4',rd_of x2,rd_of x2',g1,g3,vl,lk3',opH_alloc,zeroC35,store_ag inf35 sz35,x1,callF_of Tryz.func21 rfl,y1,str_ne,t1,t2]
      exact ⟨_,_,⟨rfl,rfl⟩,bad _ _ _ (by simp) ckF kpF (by simp [altsGo,h1,k1,m0,hs,hn,hCn,hcv,conTy,conV,t1,t2])⟩
     case neg =>
      have hgo':(w1=0∧(car=(avs.length:Int)∧altsGo C (l.heads.take i++[⟨ak,an,am,avs⟩]) (l.heads.drop (i+1)) ak cty true (seen++[an])=true))↔(w=0∧altsGo C [] l.heads 0 [] false []=true):=by
       rw [← hgo]
       have ht':(!sm || decide (cty=typ))=true:=by
        cases sm with
        | false=>rfl
        | true =>
         have:cty=typ:=Classical.byContradiction fun h=>ht ⟨rfl,h⟩
         simp [this]
       simp [altsGo,h1,k1,m0,hs,hn,hCn,hcv,conAr,conTy,conV]
       intro _
       simp only [Bool.or_eq_true,Bool.not_eq_true',decide_eq_true_eq] at ht' ⊢
       constructor
       ·rintro ⟨a1,a2⟩; exact ⟨decide_eq_true a1,ht'.imp id decide_eq_true,a2⟩
       ·rintro ⟨a1,-,a2⟩; exact ⟨of_decide_eq_true a1,a2⟩
      left
      cases sm with
      | false =>
       simp [i5,i8,i17,i18,i19,e3,ix,ld,opH_alloc,zeroC80,store_ag inf80 sz80,hce,u1,off80_0,off80_1,off80_2,off80_3,load_p inf3 ag3,load_p inf9 ag9,load_p inf2 ag2,load_p inf36 ag36,rd_of u2,g0,g1,g2,g3,callF_of Tryz.func24 rfl,nm,h1,k1,m0,lk,hs,callF_of Tryz.func44 rfl,nd,hn,v1,evC_draw]
       rw [drawC_nil (by kernel_rfl)]
       simp [i0,i7,i19,off69_0,load_p inf67 ag67,rd_of hc3,off80_1,off80_3,off35_1,off35_2,load_p inf9 ag9,load_p inf3 ag3,load_p inf36 ag36,rd_of u2',rd_of u4',rd_of x2,rd_of x2',g1,g3,vl,lk3',opH_alloc,zeroC35,store_ag inf35 sz35,x1,callF_of Tryz.func21 rfl,y1,e4]
       refine ⟨_,_,⟨rfl,rfl⟩,by simp [i0],by simp [i1],by simp [i8],by simp [i17],by simp [i18,hH],by simp,ak,cty,true,seen++[an],w5,by simp [k1],by simp,by simp,ckF,mpF,srF,kpF,?_⟩
       rw [htake,← hgo',y4]
       simp [and_assoc]
      | true =>
       have ht2:cty=typ:=Classical.byContradiction fun h=>ht ⟨rfl,h⟩
       subst ht2
       simp [i5,i8,i17,i18,i19,e3,ix,ld,opH_alloc,zeroC80,store_ag inf80 sz80,hce,u1,off80_0,off80_1,off80_2,off80_3,load_p inf3 ag3,load_p inf9 ag9,load_p inf2 ag2,load_p inf36 ag36,rd_of u2,g0,g1,g2,g3,callF_of Tryz.func24 rfl,nm,h1,k1,m0,lk,hs,callF_of Tryz.func44 rfl,nd,hn,v1,evC_draw]
       rw [drawC_nil (by kernel_rfl)]
       simp [i0,i6,i7,i19,off69_0,load_p inf67 ag67,rd_of hc3,off80_1,off80_3,off35_1,off35_2,load_p inf9 ag9,load_p inf3 ag3,load_p inf36 ag36,rd_of u2',rd_of u4',rd_of x2,rd_of x2',g1,g3,vl,lk3',opH_alloc,zeroC35,store_ag inf35 sz35,x1,callF_of Tryz.func21 rfl,y1,str_ne,e4]
       refine ⟨_,_,⟨rfl,rfl⟩,by simp [i0],by simp [i1],by simp [i8],by simp [i17],by simp [i18,hH],by simp,ak,cty,true,seen++[an],w5,by simp [k1],by simp,by simp,ckF,mpF,srF,kpF,?_⟩
       rw [htake,← hgo',y4]
       simp [and_assoc])
  (by
   rintro t s ⟨i0,i1,i8,i17,i18,i19,kind,typ,sm,seen,w1,i5,i6,i7,A⟩
   clear hL
   rw [hH,ExL.len_eq] at i18
   simp [i18,i19]
   refine ⟨_,_,⟨rfl,rfl⟩,by simp [i0],by simp [i1],w1,A.ck,A.kp,?_⟩
   have hgo:=A.go
   rw [List.drop_eq_nil_of_le (by rw [hH,ExL.len_eq]; exact Nat.le_refl _)] at hgo
   simpa [altsGo] using hgo)
 clear hL
 rcases lr with ⟨t1,s1,rfl,p0,p1,w',pC,pK,pG⟩ | ⟨t1,s1,rfl,q4,w',qC,qK,qG⟩
 ·refine ⟨decide (0 < l.len),s1,w',?_,pC,pK,?_⟩
  ·simp [p1,ln,resOf_eq,pmapO]
  ·unfold altsOK
   have:(!l.heads.isEmpty)=decide (0 < l.len):=by
    rw [← hH]
    cases l.heads <;> simp
   rw [this,Bool.and_eq_true,pG]
   constructor
   ·rintro ⟨h1,h2,h3⟩; exact ⟨h2,h1,h3⟩
   ·rintro ⟨h1,h2,h3⟩; exact ⟨h2,h1,h3⟩
 ·refine ⟨false,s1,w',?_,qC,qK,?_⟩
  ·simp [q4,resOf_eq,pmapO]
  ·simp only [Bool.false_eq_true,false_and,false_iff]
   rintro ⟨h1,h2⟩
   unfold altsOK at h2
   rw [Bool.and_eq_true] at h2
   exact qG ⟨h1,h2.2⟩
end
end Go.Proofs.YtbemeikjepjhoaaGreatDoor
