/-
  One expression, but for its parts: what the checker tells of it.
-/
import Derived.Test.YtbemeikjepjhoaaGreatDoorS35
namespace Go.Proofs.YtbemeikjepjhoaaGreatDoor
open Go.Ev
set_option maxRecDepth 100000
noncomputable section
variable {c : Option Self} {st : St}
noncomputable def cHd:Code→Code
 | .seq a _=>a
 | x=>x
noncomputable def cTl:Code→Code
 | .seq _ b=>b
 | x=>x
noncomputable def f26b:Code:=Tryz.f26.body.getD .skip
noncomputable def f26h:Code:=cTl (cHd (cTl (cTl f26b)))
noncomputable def f26r:Code:=cTl (cTl (cTl f26b))
def headOK (C:Str→Option AV) (sc:List (List Str)) (k:Int) (nm:Str) (num:Int) (ps:List Str) (b a l:ExL):Bool :=
 if k=1 then onlyB [110] nm num ps.length b.len a.len l.len && (named nm && hasB sc nm)
 else if k=2 then onlyB [105] nm num ps.length b.len a.len l.len
 else if k=3 then onlyB [105] nm num ps.length b.len a.len l.len && (decide (0≤num) && decide (num≤255))
 else if k=4 then onlyB [110,97] nm num ps.length b.len a.len l.len && (named nm && match C nm with | none=>false | some v=>decide (conAr v=(a.len:Int)))
 else if k=5 then onlyB [112,97] nm num ps.length b.len a.len l.len && (decide (1≤ps.length) && (decide (ps.length≤32) && (namesOK ps && decide (a.len=1))))
 else if k=6 then onlyB [97] nm num ps.length b.len a.len l.len && (decide (2≤a.len) && decide (a.len≤33))
 else if k=7 then onlyB [98,97] nm num ps.length b.len a.len l.len && (decide (1≤b.len) && (namesOK b.names && decide (a.len=1)))
 else if k=8 then onlyB [97,99] nm num ps.length b.len a.len l.len && (decide (a.len=1) && altsOK C l.heads)
 else if k=9 then onlyB [110,97] nm num ps.length b.len a.len l.len && (named nm && decide (arF nm=(a.len:Int)))
 else false
def innerS (k:Int) (ps:List Str) (b:ExL) (sc:List (List Str)):List (List Str):=if k=5 then ps :: sc else if k=7 then b.names :: sc else sc
theorem zeroC66:zeroC Tryz.prog 66=some [.sn,.pn]:=by kernel_rfl
theorem wf66:wfTy Tryz.prog 66=true:=by kernel_rfl
theorem place66:∃ fs,Tryz.prog.underlying 66=some (.struct fs)∧placeF Tryz.prog fs 0=some (0,1)∧placeF Tryz.prog fs 1=some (1,1):=⟨_,Tryz.underlying66,by kernel_rfl,by kernel_rfl⟩
theorem build66 {S:Self} {t:Tr AV} {x y:Operand} {v f:AV} (hx:evO t x=v) (hy:evO t y=f) (hv:v.cells=some [v]) (hf:f.cells=some [f]):opH (.build 66 #[(0,x),(1,y)]) Tryz.prog S t st=some (.ag [v,f],st):=by
 obtain ⟨fs,h1,h2,h3⟩:=place66
 show @Bool.rec (fun _=>Res) none (opBuild1 Tryz.prog 66 [(0,evO t x),(1,evO t y)] st) (wfTy Tryz.prog 66)=_
 rw [wf66,hx,hy]
 show opBuild1 Tryz.prog 66 [(0,v),(1,f)] st=_
 unfold opBuild1
 rw [h1]
 simp only [zeroC66,fillAg,fill,h2,h3,hv,hf]
 rfl
theorem isSl_cells {v:AV} {l:List AV} (h:IsSl v l):v.cells=some [v]:=by
 rcases h with ⟨rfl,-⟩ | rfl <;> simp
def FrV (st:St) (cr:Nat) (fr:AV) (sc:List (List Str)):Prop:=(fr.cells=some [fr]∧isSc fr=true)∧∃ w,Rds [cr] st fr w∧IsFr sc w
theorem FrV.keep {cr:Nat} {fr:AV} {sc:List (List Str)} {st':St} (h:FrV st cr fr sc) (k:Kp [cr] [cr] st st'):FrV st' cr fr sc:=by
 obtain ⟨h1,w,h2,h3⟩:=h
 exact ⟨h1,w,h2.keep k (by simp) (by simp),h3⟩
theorem FrV.new {cr:Nat} {fr v:AV} {sc:List (List Str)} {l:List Str} (h:FrV st cr fr sc) (hv:IsSl v (l.map .s)) (hl:l.length≤9223372036854775807) (hcr:cr < st.next):FrV (st.newCe [v,fr]) cr (.p st.next 0) (l :: sc):=by
 obtain ⟨h1,w,h2,h3⟩:=h
 have hn:st.next ∉ [cr]:=by simp; omega
 refine ⟨⟨by simp,rfl⟩,.rp [v,w],.ptr (newCe_ce _) (Nat.lt_succ_self _) (Nat.lt_succ_self _) hn hn (.cons (.pure (hv.pure (pure_strs l))) (.cons (h2.keep (.newCe [] [] _) (by simp) (by simp)) .nil)),v,w,rfl,⟨hv,hl⟩,h3⟩
structure HeadAt (st s:St) (t:Tr AV) (cr mr:Nat) (w:Int) (C:Str→Option AV) (sc:List (List Str)) (e fr:AV) (ok:Bool) (sc':List (List Str)):Prop where
 t0:tget t 0 = .p cr 0
 t1:tget t 1=e
 t2:tget t 2=fr
 fr:FrV s cr (tget t 6) sc'
 rest:∃ fine w',tget t 7 = .b fine∧Ck s cr mr w' C∧Kp [cr] [cr] st s∧((w'=0∧fine=true)↔(w=0∧ok=true))
def HeadRes (o:Out) (st:St) (cr mr:Nat) (w:Int) (C:Str→Option AV) (sc:List (List Str)) (e fr:AV) (ok:Bool) (sc':List (List Str)):Prop:=∃ t s,o = .nx t s∧HeadAt st s t cr mr w C sc e fr ok sc'
set_option maxHeartbeats 4000000 in
theorem head_run (k:Int) (nm:Str) (num:Int) (ps:AV) (b a l:ExL) (hT:(Ex.mk k nm num ps b a l).Ty) (hs:(Ex.mk k nm num ps b a l).size≤1000000) (r:List AV) (hr:pureL r=true) {cr mr:Nat} {w:Int} {C:Str→Option AV} (hC:CWf C) (hk:Ck st cr mr w C) {sc:List (List Str)} {fr:AV} (hf:FrV st cr fr sc)
  {N:Nat} (hN:sc.length+10000000000000000020≤N) {t:Tr AV} (h0:tget t 0 = .p cr 0) (h1:tget t 1 = .rp ((Ex.mk k nm num ps b a l).cells++r)) (h2:tget t 2=fr) (h6:tget t 6=fr) (h7:tget t 7 = .b false) (h18:tget t 18 = .i .i64 k) :
  HeadRes (evC f26h ⟨Tryz.prog,Tw c N,false,Tryz.f26.ntmps,N⟩ t st) st cr mr w C sc (.rp ((Ex.mk k nm num ps b a l).cells++r)) fr (headOK C sc k nm num (txsOf ps) b a l) (innerS k (txsOf ps) b sc):=by
 have hT':=hT
 simp only [Ex.Ty] at hT
 obtain ⟨-,hps,hTb,hTa,hTl⟩:=hT
 obtain ⟨hp,hpl⟩:=hps.sl
 have hsz:(Ex.mk k nm num ps b a l).size=1+b.size+a.size+l.size:=by simp only [Ex.size]
 have hbl:=b.len_le
 have hal:=a.len_le
 have hll:=l.len_le
 have hpu:pureL ((Ex.mk k nm num ps b a l).cells++r)=true:=by rw [pureL_append,Ex.cells_pure hT',hr]; rfl
 have lp:=fun st:St=>hp.sLen (st:=st) sl36
 have lb:=fun st:St=>len_sl (st:=st) Tryz.underlying23 (b.slice_len 8) (b.slice_text 8)
 have la:=fun st:St=>len_sl (st:=st) Tryz.underlying37 (a.slice_len 7) (a.slice_text 7)
 have ll:=fun st:St=>len_sl (st:=st) Tryz.underlying38 (l.slice_len 11) (l.slice_text 11)
 obtain ⟨al,hc⟩:=hk.ce
 have e1:IsErr 8:=by right; left; rfl
 have e2:IsErr 9:=by right; right; left; rfl
 have nmd:=fun st:St=>named_call (c:=c) (st:=st) nm (N:=N) (by omega)
 have cutK:∀ (j:Nat) (v:AV),(Ex.mk k nm num ps b a l).cells[j]? = some v→loadAt Tryz.prog 3 st (.rp (((Ex.mk k nm num ps b a l).cells++r).drop j))=some v∨True:=fun _ _ _=>.inr trivial
 generalize hpx:txsOf ps=px at *
 by_cases k1:k=1
 case pos =>
  subst k1
  have on:=fun st:St=>only_n (c:=c) (st:=st) 1 nm num hp b a l r (N:=N) (by omega) hpu
  simp only [Ex.cells,List.cons_append,List.nil_append] at on
  unfold HeadRes
  obtain ⟨f1,fw,f2,f3⟩:=id hf
  have hs:=has_call (c:=c) nm f2 f3 (N:=N) (by omega)
  cases ho:onlyB [110] nm num px.length b.len a.len l.len with
  | false =>
   rw [ho] at on
   obtain ⟨s1,w1,y1,y2,y3,y4⟩:=note_call (c:=c) false hk e1 (by decide) (N:=N) (by omega)
   simp [f26h,f26b,cHd,cTl,Tryz.f26,h0,h1,h18,Ex.cells,callF_of Tryz.func48 rfl,on,callF_of Tryz.func21 rfl,y1]
   refine ⟨_,_,⟨rfl,rfl⟩,by simp [h0],by simp [h1,Ex.cells],by simp [h2],by simpa [innerS,h6] using (hf.keep y3),false,w1,by simp,y2,y3,?_⟩
   simp [headOK,ho]
  | true =>
   rw [ho] at on
   cases hn:named nm with
   | false =>
    obtain ⟨s1,w1,y1,y2,y3,y4⟩:=note_call (c:=c) false hk e1 (by decide) (N:=N) (by omega)
    simp [f26h,f26b,cHd,cTl,Tryz.f26,h0,h1,h18,Ex.cells,off40_1,load_rp inf9 ag9,callF_of Tryz.func48 rfl,callF_of Tryz.func44 rfl,nmd,on,hn,callF_of Tryz.func21 rfl,y1]
    refine ⟨_,_,⟨rfl,rfl⟩,by simp [h0],by simp [h1,Ex.cells],by simp [h2],by simpa [innerS,h6] using (hf.keep y3),false,w1,by simp,y2,y3,?_⟩
    simp [headOK,ho,hn]
   | true =>
    obtain ⟨s1,w1,y1,y2,y3,y4⟩:=note_call (c:=c) (!hasB sc nm) hk e1 (by decide) (N:=N) (by omega)
    simp [f26h,f26b,cHd,cTl,Tryz.f26,h0,h1,h2,h18,Ex.cells,off40_1,load_rp inf9 ag9,callF_of Tryz.func48 rfl,callF_of Tryz.func44 rfl,nmd,on,hn,callF_of Tryz.func49 rfl,hs,callF_of Tryz.func21 rfl,y1]
    refine ⟨_,_,⟨rfl,rfl⟩,by simp [h0],by simp [h1,Ex.cells],by simp [h2],by simpa [innerS,h6] using (hf.keep y3),true,w1,by simp,y2,y3,?_⟩
    rw [y4]; simp [headOK,ho,hn]
 by_cases k2:k=2
 case pos =>
  subst k2
  have on:=fun st:St=>only_i (c:=c) (st:=st) 2 nm num hp b a l r (N:=N) (by omega) hpu
  simp only [Ex.cells,List.cons_append,List.nil_append] at on
  unfold HeadRes
  simp [f26h,f26b,cHd,cTl,Tryz.f26,h1,h18,Ex.cells,callF_of Tryz.func48 rfl,on]
  refine ⟨_,_,⟨rfl,rfl⟩,by simp [h0],by simp [h1,Ex.cells],by simp [h2],by simpa [innerS,h6] using hf,onlyB [105] nm num px.length b.len a.len l.len,w,by simp,hk,.refl _ _ _,?_⟩
  simp [headOK]
 by_cases k3:k=3
 case pos =>
  subst k3
  have on:=fun st:St=>only_i (c:=c) (st:=st) 3 nm num hp b a l r (N:=N) (by omega) hpu
  simp only [Ex.cells,List.cons_append,List.nil_append] at on
  unfold HeadRes
  cases ho:onlyB [105] nm num px.length b.len a.len l.len with
  | false =>
   rw [ho] at on
   simp [f26h,f26b,cHd,cTl,Tryz.f26,h1,h18,Ex.cells,callF_of Tryz.func48 rfl,on]
   refine ⟨_,_,⟨rfl,rfl⟩,by simp [h0],by simp [h1,Ex.cells],by simp [h2],by simpa [innerS,h6] using hf,false,w,by simp,hk,.refl _ _ _,?_⟩
   simp [headOK,ho]
  | true =>
   rw [ho] at on
   by_cases n0:0≤num
   case neg =>
    simp [f26h,f26b,cHd,cTl,Tryz.f26,h1,h18,Ex.cells,off40_2,load_rp inf2 ag2,callF_of Tryz.func48 rfl,on,n0]
    refine ⟨_,_,⟨rfl,rfl⟩,by simp [h0],by simp [h1,Ex.cells],by simp [h2],by simpa [innerS,h6] using hf,false,w,by simp,hk,.refl _ _ _,?_⟩
    simp [headOK,ho,n0]
   simp [f26h,f26b,cHd,cTl,Tryz.f26,h1,h18,Ex.cells,off40_2,load_rp inf2 ag2,callF_of Tryz.func48 rfl,on,n0]
   refine ⟨_,_,⟨rfl,rfl⟩,by simp [h0],by simp [h1,Ex.cells],by simp [h2],by simpa [innerS,h6] using hf,decide (num≤255),w,by simp,hk,.refl _ _ _,?_⟩
   simp [headOK,ho,n0]
 by_cases k4:k=4
 case pos =>
  subst k4
  have on:=fun st:St=>only_na (c:=c) (st:=st) 4 nm num hp b a l r (N:=N) (by omega) hpu
  simp only [Ex.cells,List.cons_append,List.nil_append] at on
  unfold HeadRes
  cases ho:onlyB [110,97] nm num px.length b.len a.len l.len with
  | false =>
   rw [ho] at on
   cases hCn:C nm with
   | none =>
    have lk:=hk.mp.get2 mp67 nm
    rw [hCn] at lk
    have lk':lookup Tryz.prog 67 st (.m mr) (.s nm) true=some (.tu [.ag zeroL35,.b false]):=lk
    obtain ⟨s0,x1,x2,x3,x4⟩:=alloc_store (s:=st) (z:=zeroL35) (cells:=zeroL35) rfl rfl
    have z35:zeroL35.length=4:=rfl
    have k0:=hk.keep x3 (by simp) (by simp) (by simp)
    obtain ⟨s1,w1,y1,y2,y3,y4⟩:=note_call (c:=c) true k0 e2 (by decide) (N:=N) (by omega)
    simp [f26h,f26b,cHd,cTl,Tryz.f26,h1,h18,Ex.cells,callF_of Tryz.func48 rfl,on,evC_draw]
    rw [drawC_nil (by kernel_rfl)]
    simp [h0,h1,Ex.cells,off40_1,load_rp inf9 ag9,off69_0,load_p inf67 ag67,rd_of hc,lk',opH_alloc,zeroC35,store_ag inf35 sz35,z35,x1,evC_draw]
    rw [drawC_nil (by kernel_rfl)]
    simp [h0,callF_of Tryz.func21 rfl,y1]
    refine ⟨_,_,⟨rfl,rfl⟩,by simp [h0],by simp [h1,Ex.cells],by simp [h2],by simpa [innerS,h6] using ((hf.keep (x3.sub (by simp) (by simp))).keep y3),false,w1,by simp,y2,((x3.sub (by simp) (by simp)).trans y3),?_⟩
    simp [headOK,hCn,y4]
   | some cv =>
    obtain ⟨cn,car,cty,ctag,hcv⟩:=hC _ _ hCn
    have lk:=hk.mp.get2 mp67 nm
    rw [hCn,hcv] at lk
    have lk':lookup Tryz.prog 67 st (.m mr) (.s nm) true=some (.tu [.ag [.s cn,.i .i64 car,.s cty,.i .i64 ctag],.b true]):=lk
    obtain ⟨s0,x1,x2,x3,x4⟩:=alloc_store (s:=st) (z:=zeroL35) (cells:=[.s cn,.i .i64 car,.s cty,.i .i64 ctag]) rfl rfl
    have k0:=hk.keep x3 (by simp) (by simp) (by simp)
    obtain ⟨s1,w1,y1,y2,y3,y4⟩:=note_call (c:=c) (!decide (car=(a.len:Int))) k0 e2 (by decide) (N:=N) (by omega)
    simp [f26h,f26b,cHd,cTl,Tryz.f26,h1,h18,Ex.cells,callF_of Tryz.func48 rfl,on,evC_draw]
    rw [drawC_nil (by kernel_rfl)]
    simp [h0,h1,Ex.cells,off40_1,load_rp inf9 ag9,off69_0,load_p inf67 ag67,rd_of hc,lk',opH_alloc,zeroC35,store_ag inf35 sz35,x1,evC_draw]
    rw [drawC_nil (by kernel_rfl)]
    simp [h0,h1,Ex.cells,off40_5,load_rp inf37 ag37,la,off35_1,load_p inf3 ag3,rd_of x2,callF_of Tryz.func21 rfl,y1]
    refine ⟨_,_,⟨rfl,rfl⟩,by simp [h0],by simp [h1,Ex.cells],by simp [h2],by simpa [innerS,h6] using ((hf.keep (x3.sub (by simp) (by simp))).keep y3),false,w1,by simp,y2,((x3.sub (by simp) (by simp)).trans y3),?_⟩
    have e:headOK C sc 4 nm num px b a l=(onlyB [110,97] nm num px.length b.len a.len l.len && (named nm && decide (car=(a.len:Int)))):=by simp [headOK,hCn,hcv]; intros; rfl
    rw [e,y4]; simp [ho]; try exact ⟨fun ⟨⟨q1,q2⟩,q3⟩=>⟨q1,q3,q2⟩,fun ⟨q1,q3,q2⟩=>⟨⟨q1,q2⟩,q3⟩⟩
  | true =>
   rw [ho] at on
   cases hCn:C nm with
   | none =>
    have lk:=hk.mp.get2 mp67 nm
    rw [hCn] at lk
    have lk':lookup Tryz.prog 67 st (.m mr) (.s nm) true=some (.tu [.ag zeroL35,.b false]):=lk
    obtain ⟨s0,x1,x2,x3,x4⟩:=alloc_store (s:=st) (z:=zeroL35) (cells:=zeroL35) rfl rfl
    have z35:zeroL35.length=4:=rfl
    have k0:=hk.keep x3 (by simp) (by simp) (by simp)
    obtain ⟨s1,w1,y1,y2,y3,y4⟩:=note_call (c:=c) true k0 e2 (by decide) (N:=N) (by omega)
    simp [f26h,f26b,cHd,cTl,Tryz.f26,h1,h18,Ex.cells,off40_1,load_rp inf9 ag9,callF_of Tryz.func48 rfl,callF_of Tryz.func44 rfl,nmd,on,evC_draw]
    rw [drawC_nil (by kernel_rfl)]
    simp [h0,h1,Ex.cells,off40_1,load_rp inf9 ag9,off69_0,load_p inf67 ag67,rd_of hc,lk',opH_alloc,zeroC35,store_ag inf35 sz35,z35,x1,evC_draw]
    rw [drawC_nil (by kernel_rfl)]
    simp [h0,callF_of Tryz.func21 rfl,y1]
    refine ⟨_,_,⟨rfl,rfl⟩,by simp [h0],by simp [h1,Ex.cells],by simp [h2],by simpa [innerS,h6] using ((hf.keep (x3.sub (by simp) (by simp))).keep y3),named nm,w1,by simp,y2,((x3.sub (by simp) (by simp)).trans y3),?_⟩
    simp [headOK,hCn,y4]
   | some cv =>
    obtain ⟨cn,car,cty,ctag,hcv⟩:=hC _ _ hCn
    have lk:=hk.mp.get2 mp67 nm
    rw [hCn,hcv] at lk
    have lk':lookup Tryz.prog 67 st (.m mr) (.s nm) true=some (.tu [.ag [.s cn,.i .i64 car,.s cty,.i .i64 ctag],.b true]):=lk
    obtain ⟨s0,x1,x2,x3,x4⟩:=alloc_store (s:=st) (z:=zeroL35) (cells:=[.s cn,.i .i64 car,.s cty,.i .i64 ctag]) rfl rfl
    have k0:=hk.keep x3 (by simp) (by simp) (by simp)
    obtain ⟨s1,w1,y1,y2,y3,y4⟩:=note_call (c:=c) (!decide (car=(a.len:Int))) k0 e2 (by decide) (N:=N) (by omega)
    simp [f26h,f26b,cHd,cTl,Tryz.f26,h1,h18,Ex.cells,off40_1,load_rp inf9 ag9,callF_of Tryz.func48 rfl,callF_of Tryz.func44 rfl,nmd,on,evC_draw]
    rw [drawC_nil (by kernel_rfl)]
    simp [h0,h1,Ex.cells,off40_1,load_rp inf9 ag9,off69_0,load_p inf67 ag67,rd_of hc,lk',opH_alloc,zeroC35,store_ag inf35 sz35,x1,evC_draw]
    rw [drawC_nil (by kernel_rfl)]
    simp [h0,h1,Ex.cells,off40_5,load_rp inf37 ag37,la,off35_1,load_p inf3 ag3,rd_of x2,callF_of Tryz.func21 rfl,y1]
    refine ⟨_,_,⟨rfl,rfl⟩,by simp [h0],by simp [h1,Ex.cells],by simp [h2],by simpa [innerS,h6] using ((hf.keep (x3.sub (by simp) (by simp))).keep y3),named nm,w1,by simp,y2,((x3.sub (by simp) (by simp)).trans y3),?_⟩
    have e:headOK C sc 4 nm num px b a l=(onlyB [110,97] nm num px.length b.len a.len l.len && (named nm && decide (car=(a.len:Int)))):=by simp [headOK,hCn,hcv]; intros; rfl
    rw [e,y4]; simp [ho]; try exact ⟨fun ⟨⟨q1,q2⟩,q3⟩=>⟨q1,q3,q2⟩,fun ⟨q1,q3,q2⟩=>⟨⟨q1,q2⟩,q3⟩⟩
 by_cases k5:k=5
 case pos =>
  subst k5
  have on:=fun st:St=>only_pa (c:=c) (st:=st) 5 nm num hp b a l r (N:=N) (by omega) hpu
  simp only [Ex.cells,List.cons_append,List.nil_append] at on
  unfold HeadRes
  have bo:=fun (t:Tr AV) (q1:evO t (.tmp 139)=ps) (q2:evO t (.tmp 140)=fr)=>build66 (st:=st) (S:=Tw c N) (t:=t) q1 q2 (isSl_cells hp) hf.1.1
  have nf:=hf.new hp hpl hk.crl
  have kn:=Kp.newCe (st:=st) [cr] [cr] [ps,fr]
  have nk:=hk.keep (Kp.newCe (st:=st) [] [] [ps,fr]) (by simp) (by simp) (by simp)
  have nms:=fun st:St=>names_call (c:=c) (st:=st) hp hpl (N:=N) (by omega)
  cases ho:onlyB [112,97] nm num px.length b.len a.len l.len with
  | false =>
   rw [ho] at on
   simp [f26h,f26b,cHd,cTl,Tryz.f26,h1,h2,h18,Ex.cells,off40_3,load_rp inf36 ag36,callF_of Tryz.func48 rfl,on,bo]
   refine ⟨_,_,⟨rfl,rfl⟩,by simp [h0],by simp [h1,Ex.cells],by simp [h2],by simpa [innerS,h6] using nf,false,w,by simp,nk,kn,?_⟩
   simp [headOK,ho]
  | true =>
   rw [ho] at on
   by_cases n1:1≤px.length
   case neg =>
    have n1':¬ (1:Int)≤(px.length:Int):=by omega
    simp [f26h,f26b,cHd,cTl,Tryz.f26,h1,h2,h18,Ex.cells,off40_3,load_rp inf36 ag36,callF_of Tryz.func48 rfl,lp,on,n1',bo]
    refine ⟨_,_,⟨rfl,rfl⟩,by simp [h0],by simp [h1,Ex.cells],by simp [h2],by simpa [innerS,h6] using nf,false,w,by simp,nk,kn,?_⟩
    simp [headOK,ho,n1]
   have n1':(1:Int)≤(px.length:Int):=by omega
   by_cases n2:px.length≤32
   case neg =>
    have n2':¬ (px.length:Int)≤32:=by omega
    simp [f26h,f26b,cHd,cTl,Tryz.f26,h1,h2,h18,Ex.cells,off40_3,load_rp inf36 ag36,callF_of Tryz.func48 rfl,lp,on,n1',n2',bo]
    refine ⟨_,_,⟨rfl,rfl⟩,by simp [h0],by simp [h1,Ex.cells],by simp [h2],by simpa [innerS,h6] using nf,false,w,by simp,nk,kn,?_⟩
    simp [headOK,ho,n1,n2]
   have n2':(px.length:Int)≤32:=by omega
   cases nn:namesOK px with
   | false =>
    simp [f26h,f26b,cHd,cTl,Tryz.f26,h1,h2,h18,Ex.cells,off40_3,load_rp inf36 ag36,callF_of Tryz.func48 rfl,lp,on,n1',n2',callF_of Tryz.func24 rfl,nms,nn,bo]
    refine ⟨_,_,⟨rfl,rfl⟩,by simp [h0],by simp [h1,Ex.cells],by simp [h2],by simpa [innerS,h6] using nf,false,w,by simp,nk,kn,?_⟩
    simp [headOK,ho,n1,n2,nn]
   | true =>
    have na:decide ((a.len:Int)=1)=decide (a.len=1):=by rw [decide_eq_decide]; omega
    simp [f26h,f26b,cHd,cTl,Tryz.f26,h1,h2,h18,Ex.cells,off40_3,off40_5,load_rp inf36 ag36,load_rp inf37 ag37,callF_of Tryz.func48 rfl,lp,la,on,n1',n2',callF_of Tryz.func24 rfl,nms,nn,bo]
    refine ⟨_,_,⟨rfl,rfl⟩,by simp [h0],by simp [h1,Ex.cells],by simp [h2],by simpa [innerS,h6] using nf,decide (a.len=1),w,by simp [na],nk,kn,?_⟩
    simp [headOK,ho,n1,n2,nn]
 by_cases k6:k=6
 case pos =>
  subst k6
  have on:=fun st:St=>only_a (c:=c) (st:=st) 6 nm num hp b a l r (N:=N) (by omega) hpu
  simp only [Ex.cells,List.cons_append,List.nil_append] at on
  unfold HeadRes
  cases ho:onlyB [97] nm num px.length b.len a.len l.len with
  | false =>
   rw [ho] at on
   simp [f26h,f26b,cHd,cTl,Tryz.f26,h1,h18,Ex.cells,callF_of Tryz.func48 rfl,on]
   refine ⟨_,_,⟨rfl,rfl⟩,by simp [h0],by simp [h1,Ex.cells],by simp [h2],by simpa [innerS,h6] using hf,false,w,by simp,hk,.refl _ _ _,?_⟩
   simp [headOK,ho]
  | true =>
   rw [ho] at on
   by_cases n1:2≤a.len
   case neg =>
    have n1':¬ (2:Int)≤(a.len:Int):=by omega
    simp [f26h,f26b,cHd,cTl,Tryz.f26,h1,h18,Ex.cells,off40_5,load_rp inf37 ag37,callF_of Tryz.func48 rfl,la,on,n1']
    refine ⟨_,_,⟨rfl,rfl⟩,by simp [h0],by simp [h1,Ex.cells],by simp [h2],by simpa [innerS,h6] using hf,false,w,by simp,hk,.refl _ _ _,?_⟩
    simp [headOK,ho,n1]
   have n1':(2:Int)≤(a.len:Int):=by omega
   have na:decide ((a.len:Int)≤33)=decide (a.len≤33):=by rw [decide_eq_decide]; omega
   simp [f26h,f26b,cHd,cTl,Tryz.f26,h1,h18,Ex.cells,off40_5,load_rp inf37 ag37,callF_of Tryz.func48 rfl,la,on,n1']
   refine ⟨_,_,⟨rfl,rfl⟩,by simp [h0],by simp [h1,Ex.cells],by simp [h2],by simpa [innerS,h6] using hf,decide (a.len≤33),w,by simp [na],hk,.refl _ _ _,?_⟩
   simp [headOK,ho,n1]
 by_cases k7:k=7
 case pos =>
  subst k7
  have on:=fun st:St=>only_ba (c:=c) (st:=st) 7 nm num hp b a l r (N:=N) (by omega) hpu
  simp only [Ex.cells,List.cons_append,List.nil_append] at on
  unfold HeadRes
  obtain ⟨wb,wb1,wb2⟩:=binds_call (c:=c) (st:=st) hTb (by omega) (N:=N) (by omega)
  have wln:=fun st:St=>wb2.sLen (st:=st) sl36
  rw [names_len] at wln
  have wll:b.names.length≤9223372036854775807:=by rw [names_len]; omega
  have bo:=fun (t:Tr AV) (q1:evO t (.tmp 189)=wb) (q2:evO t (.tmp 190)=fr)=>build66 (st:=st) (S:=Tw c N) (t:=t) q1 q2 (isSl_cells wb2) hf.1.1
  have nf:=hf.new wb2 wll hk.crl
  have kn:=Kp.newCe (st:=st) [cr] [cr] [wb,fr]
  have nk:=hk.keep (Kp.newCe (st:=st) [] [] [wb,fr]) (by simp) (by simp) (by simp)
  have nms:=fun st:St=>names_call (c:=c) (st:=st) wb2 wll (N:=N) (by omega)
  cases ho:onlyB [98,97] nm num px.length b.len a.len l.len with
  | false =>
   rw [ho] at on
   simp [f26h,f26b,cHd,cTl,Tryz.f26,h1,h2,h18,Ex.cells,off40_4,load_rp inf23 ag23,callF_of Tryz.func48 rfl,callF_of Tryz.func23 rfl,wb1,on,bo]
   refine ⟨_,_,⟨rfl,rfl⟩,by simp [h0],by simp [h1,Ex.cells],by simp [h2],by simpa [innerS,h6] using nf,false,w,by simp,nk,kn,?_⟩
   simp [headOK,ho]
  | true =>
   rw [ho] at on
   by_cases n1:1≤b.len
   case neg =>
    have n1':¬ (1:Int)≤(b.len:Int):=by omega
    simp [f26h,f26b,cHd,cTl,Tryz.f26,h1,h2,h18,Ex.cells,off40_4,load_rp inf23 ag23,callF_of Tryz.func48 rfl,callF_of Tryz.func23 rfl,wb1,wln,on,n1',bo]
    refine ⟨_,_,⟨rfl,rfl⟩,by simp [h0],by simp [h1,Ex.cells],by simp [h2],by simpa [innerS,h6] using nf,false,w,by simp,nk,kn,?_⟩
    simp [headOK,ho,n1]
   have n1':(1:Int)≤(b.len:Int):=by omega
   cases nn:namesOK b.names with
   | false =>
    simp [f26h,f26b,cHd,cTl,Tryz.f26,h1,h2,h18,Ex.cells,off40_4,load_rp inf23 ag23,callF_of Tryz.func48 rfl,callF_of Tryz.func23 rfl,wb1,wln,on,n1',callF_of Tryz.func24 rfl,nms,nn,bo]
    refine ⟨_,_,⟨rfl,rfl⟩,by simp [h0],by simp [h1,Ex.cells],by simp [h2],by simpa [innerS,h6] using nf,false,w,by simp,nk,kn,?_⟩
    simp [headOK,ho,n1,nn]
   | true =>
    have na:decide ((a.len:Int)=1)=decide (a.len=1):=by rw [decide_eq_decide]; omega
    simp [f26h,f26b,cHd,cTl,Tryz.f26,h1,h2,h18,Ex.cells,off40_4,off40_5,load_rp inf23 ag23,load_rp inf37 ag37,callF_of Tryz.func48 rfl,la,callF_of Tryz.func23 rfl,wb1,wln,on,n1',callF_of Tryz.func24 rfl,nms,nn,bo]
    refine ⟨_,_,⟨rfl,rfl⟩,by simp [h0],by simp [h1,Ex.cells],by simp [h2],by simpa [innerS,h6] using nf,decide (a.len=1),w,by simp [na],nk,kn,?_⟩
    simp [headOK,ho,n1,nn]
 by_cases k8:k=8
 case pos =>
  subst k8
  have on:=fun st:St=>only_ac (c:=c) (st:=st) 8 nm num hp b a l r (N:=N) (by omega) hpu
  simp only [Ex.cells,List.cons_append,List.nil_append] at on
  unfold HeadRes
  cases ho:onlyB [97,99] nm num px.length b.len a.len l.len with
  | false =>
   rw [ho] at on
   simp [f26h,f26b,cHd,cTl,Tryz.f26,h1,h18,Ex.cells,callF_of Tryz.func48 rfl,on]
   refine ⟨_,_,⟨rfl,rfl⟩,by simp [h0],by simp [h1,Ex.cells],by simp [h2],by simpa [innerS,h6] using hf,false,w,by simp,hk,.refl _ _ _,?_⟩
   simp [headOK,ho]
  | true =>
   rw [ho] at on
   by_cases n1:a.len=1
   case neg =>
    have n1':¬ (a.len:Int)=1:=by omega
    simp [f26h,f26b,cHd,cTl,Tryz.f26,h1,h18,Ex.cells,off40_5,load_rp inf37 ag37,callF_of Tryz.func48 rfl,la,on,n1']
    refine ⟨_,_,⟨rfl,rfl⟩,by simp [h0],by simp [h1,Ex.cells],by simp [h2],by simpa [innerS,h6] using hf,false,w,by simp,hk,.refl _ _ _,?_⟩
    simp [headOK,ho,n1]
   have n1':(a.len:Int)=1:=by omega
   obtain ⟨bb,s1,w1,y1,y2,y3,y4⟩:=alts_call (c:=c) hTl (by omega) hC hk (N:=N) (by omega)
   simp [f26h,f26b,cHd,cTl,Tryz.f26,h0,h1,h18,Ex.cells,off40_5,off40_6,load_rp inf37 ag37,load_rp inf38 ag38,callF_of Tryz.func48 rfl,la,on,n1',callF_of Tryz.func50 rfl,y1]
   refine ⟨_,_,⟨rfl,rfl⟩,by simp [h0],by simp [h1,Ex.cells],by simp [h2],by simpa [innerS,h6] using (hf.keep y3),bb,w1,by simp,y2,y3,?_⟩
   rw [n1] at ho; rw [and_comm,y4]; simp [headOK,ho,n1]
 by_cases k9:k=9
 case pos =>
  subst k9
  have on:=fun st:St=>only_na (c:=c) (st:=st) 9 nm num hp b a l r (N:=N) (by omega) hpu
  simp only [Ex.cells,List.cons_append,List.nil_append] at on
  unfold HeadRes
  have arc:=fun st:St=>arity_call (c:=c) (st:=st) nm (N:=N) (by omega)
  cases ho:onlyB [110,97] nm num px.length b.len a.len l.len with
  | false =>
   rw [ho] at on
   obtain ⟨s1,w1,y1,y2,y3,y4⟩:=note_call (c:=c) (!decide (arF nm=(a.len:Int))) hk e2 (by decide) (N:=N) (by omega)
   simp [f26h,f26b,cHd,cTl,Tryz.f26,h1,h18,Ex.cells,callF_of Tryz.func48 rfl,on,evC_draw]
   rw [drawC_eq (fl:=[(9,0),(10,0)])]
   rotate_left
   ·kernel_rfl
   ·intro R hR
    simp [h0,h1,Ex.cells,off40_1,off40_5,load_rp inf9 ag9,load_rp inf37 ag37,la,callF_of Tryz.func51 rfl,arc,callF_of Tryz.func21 rfl,y1] at hR
    subst hR
    simp only [List.all_cons,List.all_nil,Bool.and_true,Bool.and_eq_true]
    exact ⟨recheck_eq rfl rfl rfl (s:=st) (by simp [load_rp inf37 ag37]),recheck_eq rfl rfl rfl (s:=st) (by simp [la])⟩
   simp [h0,h1,Ex.cells,off40_1,off40_5,load_rp inf9 ag9,load_rp inf37 ag37,la,callF_of Tryz.func51 rfl,arc,callF_of Tryz.func21 rfl,y1]
   refine ⟨_,_,⟨rfl,rfl⟩,by simp [h0],by simp [h1,Ex.cells],by simp [h2],by simpa [innerS,h6] using (hf.keep y3),false,w1,by simp,y2,y3,?_⟩
   rw [y4]; simp [headOK,ho]; try exact ⟨fun ⟨⟨q1,q2⟩,q3⟩=>⟨q1,q3,q2⟩,fun ⟨q1,q3,q2⟩=>⟨⟨q1,q2⟩,q3⟩⟩
  | true =>
   rw [ho] at on
   obtain ⟨s1,w1,y1,y2,y3,y4⟩:=note_call (c:=c) (!decide (arF nm=(a.len:Int))) hk e2 (by decide) (N:=N) (by omega)
   simp [f26h,f26b,cHd,cTl,Tryz.f26,h1,h18,Ex.cells,off40_1,load_rp inf9 ag9,callF_of Tryz.func48 rfl,callF_of Tryz.func44 rfl,nmd,on,evC_draw]
   rw [drawC_eq (fl:=[(9,0),(10,0)])]
   rotate_left
   ·kernel_rfl
   ·intro R hR
    simp [h0,h1,Ex.cells,off40_1,off40_5,load_rp inf9 ag9,load_rp inf37 ag37,la,callF_of Tryz.func51 rfl,arc,callF_of Tryz.func21 rfl,y1] at hR
    subst hR
    simp only [List.all_cons,List.all_nil,Bool.and_true,Bool.and_eq_true]
    exact ⟨recheck_eq rfl rfl rfl (s:=st) (by simp [load_rp inf37 ag37]),recheck_eq rfl rfl rfl (s:=st) (by simp [la])⟩
   simp [h0,h1,Ex.cells,off40_1,off40_5,load_rp inf9 ag9,load_rp inf37 ag37,la,callF_of Tryz.func51 rfl,arc,callF_of Tryz.func21 rfl,y1]
   refine ⟨_,_,⟨rfl,rfl⟩,by simp [h0],by simp [h1,Ex.cells],by simp [h2],by simpa [innerS,h6] using (hf.keep y3),named nm,w1,by simp,y2,y3,?_⟩
   rw [y4]; simp [headOK,ho]; try exact ⟨fun ⟨⟨q1,q2⟩,q3⟩=>⟨q1,q3,q2⟩,fun ⟨q1,q3,q2⟩=>⟨⟨q1,q2⟩,q3⟩⟩
 unfold HeadRes
 simp [f26h,f26b,cHd,cTl,Tryz.f26,h18,Ex.cells,k1,k2,k3,k4,k5,k6,k7,k8,k9]
 refine ⟨_,_,⟨rfl,rfl⟩,by simp [h0],by simp [h1,Ex.cells],by simp [h2],by simpa [innerS,h6,k1,k2,k3,k4,k5,k6,k7,k8,k9] using hf,false,w,by simp [h7],hk,.refl _ _ _,?_⟩
 simp [headOK,k1,k2,k3,k4,k5,k6,k7,k8,k9]
end
end Go.Proofs.YtbemeikjepjhoaaGreatDoor
