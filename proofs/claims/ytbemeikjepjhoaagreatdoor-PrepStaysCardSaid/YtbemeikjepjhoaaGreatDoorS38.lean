/-
  consFine answers, whatever constructors it is asked of. · long, and the checker that of makes. · of: the checker that is made.
-/
import Derived.Test.YtbemeikjepjhoaaGreatDoorS37
namespace Go.Proofs.YtbemeikjepjhoaaGreatDoor
open Go.Ev
set_option maxRecDepth 100000
noncomputable section
variable {c : Option Self} {st : St}
def builtD:List ConD:=[⟨[70,97,108,115,101],0,[66,111,111,108],0⟩,⟨[84,114,117,101],0,[66,111,111,108],1⟩,⟨[78,105,108],0,[76,105,115,116],0⟩,⟨[67,111,110,115],2,[76,105,115,116],1⟩,⟨[85,110,105,116],0,[85,110,105,116],0⟩]
def builtR:Option AV:=match S00.call 45 [] st0 with
 | some (v,s)=>rdF 0 6 s v
 | none=>none
theorem built_run:builtR=some (.rs ((builtD.map ConD.cells).flatten) 5 4):=by kernel_rfl
theorem builtin_call {N:Nat} (hN:1≤N):(Tw c N).call 45 [] st=some (.rs ((builtD.map ConD.cells).flatten) 5 4,st):=by
 obtain ⟨N,rfl⟩:∃ N',N=N'+1:=⟨N - 1,by omega⟩
 have h:=built_run
 unfold builtR at h
 split at h
 ·rename_i v s hv
  rw [tw_w0 (.inr (by decide))]
  show (byF G0 S00 (byF G1 _ _)).call 45 [] st=_
  rw [byF_out rfl,byF_out rfl]
  exact byZ_in rfl rfl hv ⟨6,h⟩ (by simp only [pureV]; exact pure_cons _)
 ·cases h
theorem built_cons:IsCons (.rs ((builtD.map ConD.cells).flatten) 5 4) builtD:=⟨.inr rfl,fun x hx=>by
 obtain ⟨d,-,rfl⟩:=List.mem_map.1 hx
 rfl⟩
def FineAt (v:AV) (ds:List ConD) (r:Nat) (i:Nat) (t:Tr AV) (s:St):Prop :=
 tget t 0=v∧tget t 3 = .m r∧tget t 12=v∧tget t 13 = .i .i64 (ds.length:Int)∧tget t 14 = .i .i64 (i:Int)∧r < s.next∧(∀ j (h:j < ds.length),j < i→ds[j].ar≤32)∧∃ seen,MpF s r (seenF seen)
def FineRet0 (t:Tr AV):Prop:=∃ b,tget t 2 = .b b∧b=false
def FineEnd (v:AV) (ds:List ConD) (t:Tr AV):Prop:=tget t 0=v∧∀ d ∈ ds,d.ar≤32
def FineRet (t:Tr AV):Prop:=∃ b,tget t 2 = .b b
def RetB (o:Option (AV × St)) (ds:List ConD):Prop:=∃ b,Ret o (.b b)∧(b=true→∀ d ∈ ds,d.ar≤32)
set_option maxHeartbeats 4000000 in
theorem consFine_ar {v:AV} {ds:List ConD} (hv:IsCons v ds) (hl:ds.length≤1000000) {N:Nat} (hN:10000000000000000010≤N):∃ b:Bool,(∀ st,(Tw c N).call 22 [v] st=some (.b b,st))∧(b=true→∀ d ∈ ds,d.ar≤32):=by
 obtain ⟨N,rfl⟩:∃ N',N=N'+1:=⟨N - 1,by omega⟩
 have hp:pureL [v]=true:=by simp [pureL,hv.pure]
 suffices h:RetB (bodyR c N Tryz.f22 (Tryz.f22.body.getD .skip) [v] st0) ds by
  obtain ⟨b,h1,h2⟩:=h
  exact ⟨b,fun st=>body_v (X:=[]) rfl rfl (.inr (by decide)) (.pure hp) Tryz.func22 rfl (Nat.le_of_ble_eq_true rfl) rfl h1,h2⟩
 unfold bodyR
 have ln:=fun st:St=>cons_len (st:=st) hv
 have hm:=MpF.new st0
 have hr0:st0.next < (st0.new (.mp [] 0)).next:=Nat.lt_succ_self _
 obtain ⟨r,hr⟩:∃ r,st0.next=r:=⟨_,rfl⟩
 obtain ⟨s0,hs0⟩:∃ s,st0.new (.mp [] 0)=s:=⟨_,rfl⟩
 rw [hr,hs0] at hm hr0
 simp [Tryz.f22,ln,hr,hs0,evC_loop]
 generalize hL:loopC _ _ _ _=L
 have lr:=loop_ret hL 0 ds.length (FineAt v ds r) (fun t s=>FineEnd v ds t) (fun t _=>FineRet0 t) (by omega)
  ⟨by simp,by simp,by simp,by simp,by simp,hr0,fun j hj h=>(by omega),[],by
   have:seenF []=fun _=>none:=by funext x; simp [seenF]
   rw [this]; exact hm⟩
  (by
   rintro i t s hi ⟨i0,i3,i12,i13,i14,irl,iA,seen,iM⟩
   clear hL
   have e3:(i:Int) < (ds.length:Int):=by omega
   have e4:wr .i64 ((i:Int)+1)=((i+1:Nat):Int):=by rw [wr_in (by omega) (by omega)]; rfl
   obtain ⟨q,ix⟩:=con_at hv hi
   have ld:=fun st:St=>con_load (st:=st) ds[i] q
   obtain ⟨d,hd⟩:∃ d,ds[i]=d:=⟨_,rfl⟩
   rw [hd] at ix ld
   have hcl:d.cells.length=4:=rfl
   obtain ⟨s2,u1,u2,u3,u4⟩:=alloc_store (s:=s) (z:=zeroL35) (cells:=d.cells) rfl (sc_con d)
   have mp2:=iM.keep u3 irl (by simp)
   have c0:cut d.cells 0 1=some [.s d.n]:=rfl
   have c1:cut d.cells 1 1=some [.i .i64 d.ar]:=rfl
   have c2:cut d.cells 2 1=some [.s d.ty]:=rfl
   have c3:cut d.cells 3 1=some [.i .i64 d.tag]:=rfl
   have n1:=fun st:St=>named_call (c:=c) (st:=st) d.n (N:=N) (by omega)
   have n2:=fun st:St=>named_call (c:=c) (st:=st) d.ty (N:=N) (by omega)
   have lk:=mp2.get mp51 d.n
   rw [seen_get] at lk
   obtain ⟨s3,v1,v2,v3,v4⟩:=mp2.set mp51 d.n (.b true)
   rw [seen_upd] at v2
   have hne:s.next ∉ [r]:=by simp; omega
   have u2':=v3.ce u2 u4 u4 hne (by simp)
   have rl3:r < s3.next:=by rw [v4]; exact Nat.lt_of_lt_of_le irl u3.next
   cases h1:named d.n with
   | false =>
    right
    simp [i12,i13,i14,e3,ix,ld,opH_alloc,zeroC35,store_ag inf35 sz35,hcl,u1,off35_0,load_p inf9 ag9,rd_of u2,c0,callF_of Tryz.func44 rfl,n1,h1]
    exact ⟨false,by simp⟩
   | true =>
   cases h2:named d.ty with
   | false =>
    right
    simp [i12,i13,i14,e3,ix,ld,opH_alloc,zeroC35,store_ag inf35 sz35,hcl,u1,off35_0,off35_2,load_p inf9 ag9,rd_of u2,c0,c2,callF_of Tryz.func44 rfl,n1,n2,h1,h2]
    exact ⟨false,by simp⟩
   | true =>
   by_cases h3:d.n ∈ seen
   case pos =>
    right
    simp [i3,i12,i13,i14,e3,ix,ld,opH_alloc,zeroC35,store_ag inf35 sz35,hcl,u1,off35_0,off35_2,load_p inf9 ag9,rd_of u2,c0,c2,callF_of Tryz.func44 rfl,n1,n2,lk,h1,h2,h3]
    exact ⟨false,by simp⟩
   by_cases h4:d.ar < 0
   case pos =>
    right
    simp [i3,i12,i13,i14,e3,ix,ld,opH_alloc,zeroC35,store_ag inf35 sz35,hcl,u1,off35_0,off35_1,off35_2,load_p inf9 ag9,load_p inf3 ag3,rd_of u2,c0,c1,c2,callF_of Tryz.func44 rfl,n1,n2,lk,h1,h2,h3,h4]
    exact ⟨false,by simp⟩
   by_cases h5:32 < d.ar
   case pos =>
    right
    simp [i3,i12,i13,i14,e3,ix,ld,opH_alloc,zeroC35,store_ag inf35 sz35,hcl,u1,off35_0,off35_1,off35_2,load_p inf9 ag9,load_p inf3 ag3,rd_of u2,c0,c1,c2,callF_of Tryz.func44 rfl,n1,n2,lk,h1,h2,h3,h4,h5]
    exact ⟨false,by simp⟩
   have AR:∀ j (h:j < ds.length),j < i+1→ds[j].ar≤32:=fun j hj hji=>by
    rcases Nat.lt_succ_iff_lt_or_eq.1 hji with hji | rfl
    ·exact iA j hj hji
    ·rw [hd]; omega
   by_cases hz:i=0
   case pos =>
    have z0:¬ 0 < i:=by omega
    by_cases hg:d.tag=0
    case pos =>
     left
     simp [i3,i12,i13,i14,e3,ix,ld,opH_alloc,zeroC35,store_ag inf35 sz35,hcl,u1,off35_0,off35_1,off35_2,load_p inf9 ag9,load_p inf3 ag3,rd_of u2,c0,c1,c2,callF_of Tryz.func44 rfl,n1,n2,lk,h1,h2,h3,h4,h5,v1,evC_draw]
     rw [drawC_nil (by kernel_rfl)]
     simp [z0,evC_draw]
     rw [drawC_nil (by kernel_rfl)]
     simp [i14,e4,off35_3,load_p inf3 ag3,rd_of u2',c3,z0,hg]
     exact ⟨_,_,⟨rfl,rfl⟩,by simp [i0],by simp [i3],by simp [i12],by simp [i13],by simp,rl3,AR,seen++[d.n],v2⟩
    right
    simp [i3,i12,i13,i14,e3,ix,ld,opH_alloc,zeroC35,store_ag inf35 sz35,hcl,u1,off35_0,off35_1,off35_2,load_p inf9 ag9,load_p inf3 ag3,rd_of u2,c0,c1,c2,callF_of Tryz.func44 rfl,n1,n2,lk,h1,h2,h3,h4,h5,v1,evC_draw]
    rw [drawC_nil (by kernel_rfl)]
    simp [z0,evC_draw]
    rw [drawC_nil (by kernel_rfl)]
    simp [off35_3,load_p inf3 ag3,rd_of u2',c3,z0,hg]
    exact ⟨false,by simp⟩
   have z0:0 < i:=by omega
   have z1:wr .i64 ((i:Int) - 1)=((i - 1:Nat):Int):=by rw [wr_in (by omega) (by omega)]; omega
   obtain ⟨q2,ix2⟩:=con_at hv (show i - 1 < ds.length by omega)
   obtain ⟨p,hp'⟩:∃ p,ds[i - 1]=p:=⟨_,rfl⟩
   rw [hp'] at ix2
   have d2:cut ((p.cells++q2).drop 2) 0 1=some [.s p.ty]:=rfl
   have d3:cut ((p.cells++q2).drop 3) 0 1=some [.i .i64 p.tag]:=rfl
   by_cases ht:p.ty=d.ty
   case pos =>
    by_cases hg:d.tag=wr .i64 (p.tag+1)
    case pos =>
     left
     simp [i3,i12,i13,i14,e3,ix,ld,opH_alloc,zeroC35,store_ag inf35 sz35,hcl,u1,off35_0,off35_1,off35_2,load_p inf9 ag9,load_p inf3 ag3,rd_of u2,c0,c1,c2,callF_of Tryz.func44 rfl,n1,n2,lk,h1,h2,h3,h4,h5,v1,evC_draw]
     rw [drawC_nil (by kernel_rfl)]
     simp [i0,i14,e4,off35_2,off35_3,load_p inf9 ag9,load_p inf3 ag3,rd_of u2',c2,c3,str_eq,load_rp inf9 ag9,load_rp inf3 ag3,z0,z1,ix2,d2,d3,ht,hg]
     exact ⟨_,_,⟨rfl,rfl⟩,by simp [i0],by simp [i3],by simp [i12],by simp [i13],by simp,rl3,AR,seen++[d.n],v2⟩
    right
    simp [i3,i12,i13,i14,e3,ix,ld,opH_alloc,zeroC35,store_ag inf35 sz35,hcl,u1,off35_0,off35_1,off35_2,load_p inf9 ag9,load_p inf3 ag3,rd_of u2,c0,c1,c2,callF_of Tryz.func44 rfl,n1,n2,lk,h1,h2,h3,h4,h5,v1,evC_draw]
    rw [drawC_nil (by kernel_rfl)]
    simp [i0,off35_2,off35_3,load_p inf9 ag9,load_p inf3 ag3,rd_of u2',c2,c3,str_eq,load_rp inf9 ag9,load_rp inf3 ag3,z0,z1,ix2,d2,d3,ht,hg]
    exact ⟨false,by simp⟩
   cases hgt:(!(llt p.ty d.ty || leq p.ty d.ty)) with
   | true =>
    right
    simp [i3,i12,i13,i14,e3,ix,ld,opH_alloc,zeroC35,store_ag inf35 sz35,hcl,u1,off35_0,off35_1,off35_2,load_p inf9 ag9,load_p inf3 ag3,rd_of u2,c0,c1,c2,callF_of Tryz.func44 rfl,n1,n2,lk,h1,h2,h3,h4,h5,v1,evC_draw]
    rw [drawC_nil (by kernel_rfl)]
    simp [i0,off35_2,load_p inf9 ag9,rd_of u2',c2,str_eq,load_rp inf9 ag9,z0,z1,ix2,d2,ht,evC_draw]
    rw [drawC_nil (by kernel_rfl)]
    simp [i0,off35_2,load_p inf9 ag9,rd_of u2',c2,str_gt,load_rp inf9 ag9,z0,z1,ix2,d2,hgt]
    exact ⟨false,by simp⟩
   | false =>
    by_cases hg:d.tag=0
    case pos =>
     left
     simp [i3,i12,i13,i14,e3,ix,ld,opH_alloc,zeroC35,store_ag inf35 sz35,hcl,u1,off35_0,off35_1,off35_2,load_p inf9 ag9,load_p inf3 ag3,rd_of u2,c0,c1,c2,callF_of Tryz.func44 rfl,n1,n2,lk,h1,h2,h3,h4,h5,v1,evC_draw]
     rw [drawC_nil (by kernel_rfl)]
     simp [i0,off35_2,load_p inf9 ag9,rd_of u2',c2,str_eq,load_rp inf9 ag9,z0,z1,ix2,d2,ht,evC_draw]
     rw [drawC_nil (by kernel_rfl)]
     simp [i0,i14,e4,off35_2,off35_3,load_p inf9 ag9,load_p inf3 ag3,rd_of u2',c2,c3,str_gt,load_rp inf9 ag9,z0,z1,ix2,d2,hgt,hg]
     exact ⟨_,_,⟨rfl,rfl⟩,by simp [i0],by simp [i3],by simp [i12],by simp [i13],by simp,rl3,AR,seen++[d.n],v2⟩
    right
    simp [i3,i12,i13,i14,e3,ix,ld,opH_alloc,zeroC35,store_ag inf35 sz35,hcl,u1,off35_0,off35_1,off35_2,load_p inf9 ag9,load_p inf3 ag3,rd_of u2,c0,c1,c2,callF_of Tryz.func44 rfl,n1,n2,lk,h1,h2,h3,h4,h5,v1,evC_draw]
    rw [drawC_nil (by kernel_rfl)]
    simp [i0,off35_2,load_p inf9 ag9,rd_of u2',c2,str_eq,load_rp inf9 ag9,z0,z1,ix2,d2,ht,evC_draw]
    rw [drawC_nil (by kernel_rfl)]
    simp [i0,off35_2,off35_3,load_p inf9 ag9,load_p inf3 ag3,rd_of u2',c2,c3,str_gt,load_rp inf9 ag9,z0,z1,ix2,d2,hgt,hg]
    exact ⟨false,by simp⟩)
  (by
   rintro t s ⟨i0,i3,i12,i13,i14,irl,iA,seen,iM⟩
   clear hL
   simp [i13,i14]
   refine ⟨by simpa using i0,fun d hd=>?_⟩
   obtain ⟨j,hj,rfl⟩:=List.getElem_of_mem hd
   exact iA j hj hj)
 clear hL
 rcases lr with ⟨t1,s1,rfl,p0,pA⟩ | ⟨t1,s1,rfl,b,hb,hbf⟩
 case inr=>exact ⟨b,by simp [hb,resOf_eq,pmapO],fun h=>by rw [hbf] at h; cases h⟩
 have bc:=fun st:St=>builtin_call (c:=c) (st:=st) (N:=N) (by omega)
 have bl:=fun st:St=>cons_len (st:=st) built_cons
 simp [callF_of Tryz.func45 rfl,bc,bl,evC_loop]
 generalize hL:loopC _ _ _ _=L
 have lr:=loop_ret hL 2 5 (fun i t s=>tget t 0=v∧tget t 86 = .rs ((builtD.map ConD.cells).flatten) 5 4∧tget t 87 = .i .i64 5∧tget t 88 = .i .i64 (i:Int)) (fun t s=>tget t 0=v) (fun t _=>FineRet t) (by omega)
  ⟨by simp [p0],by simp,by simp [builtD],by simp⟩
  (by
   rintro i t s hi ⟨i0,i86,i87,i88⟩
   clear hL
   have e3:(i:Int) < 5:=by omega
   have e4:wr .i64 ((i:Int)+1)=((i+1:Nat):Int):=by rw [wr_in (by omega) (by omega)]; rfl
   have hi':i < builtD.length:=hi
   obtain ⟨q,ix⟩:=con_at built_cons hi'
   have ld:=fun st:St=>con_load (st:=st) builtD[i] q
   generalize builtD[i]=d at *
   have hcl:d.cells.length=4:=rfl
   obtain ⟨s2,u1,u2,u3,u4⟩:=alloc_store (s:=s) (z:=zeroL35) (cells:=d.cells) rfl (sc_con d)
   have hld:loadAt Tryz.prog 35 s2 (.p s.next 0)=some (.ag d.cells):=by
    rw [load_ag inf35 ag35,sz35,rd_of u2]; rfl
   obtain ⟨b,hb⟩:=containsC_call (c:=c) d hv (by omega) (N:=N) (by omega)
   cases b with
   | true =>
    left
    simp [i0,i86,i87,i88,e3,e4,ix,ld,opH_alloc,zeroC35,store_ag inf35 sz35,hcl,u1,hld,callF_of Tryz.func46 rfl,hb]
   | false =>
    right
    simp [i0,i86,i87,i88,e3,ix,ld,opH_alloc,zeroC35,store_ag inf35 sz35,hcl,u1,hld,callF_of Tryz.func46 rfl,hb]
    exact ⟨false,by simp⟩)
  (by
   rintro t s ⟨i0,i86,i87,i88⟩
   clear hL
   simp [i87,i88]
   exact i0)
 clear hL
 rcases lr with ⟨t2,s2,rfl,p0⟩ | ⟨t2,s2,rfl,b,hb⟩
 case inr=>exact ⟨b,by simp [hb,resOf_eq,pmapO],fun _=>pA⟩
 simp [p0,ln,evC_loop]
 generalize hL:loopC _ _ _ _=L
 have lr:=loop_ret hL 4 ds.length (fun i t s=>tget t 0=v∧tget t 97=v∧tget t 98 = .i .i64 (ds.length:Int)∧tget t 99 = .i .i64 (i:Int)) (fun t s=>True) (fun t _=>FineRet t) (by omega)
  ⟨by simp [p0],by simp,by simp,by simp⟩
  (by
   rintro i t s hi ⟨i0,i97,i98,i99⟩
   clear hL
   have e3:(i:Int) < (ds.length:Int):=by omega
   have e4:wr .i64 ((i:Int)+1)=((i+1:Nat):Int):=by rw [wr_in (by omega) (by omega)]; rfl
   obtain ⟨q,ix⟩:=con_at hv hi
   have ld:=fun st:St=>con_load (st:=st) ds[i] q
   obtain ⟨d,hd⟩:∃ d,ds[i]=d:=⟨_,rfl⟩
   rw [hd] at ix ld
   have hcl:d.cells.length=4:=rfl
   have c2:cut d.cells 2 1=some [.s d.ty]:=rfl
   obtain ⟨s2,u1,u2,u3,u4⟩:=alloc_store (s:=s) (z:=zeroL35) (cells:=d.cells) rfl (sc_con d)
   have hld:loadAt Tryz.prog 35 s2 (.p s.next 0)=some (.ag d.cells):=by
    rw [load_ag inf35 ag35,sz35,rd_of u2]; rfl
   obtain ⟨b,hb⟩:=containsC_call (c:=c) d built_cons (by decide) (N:=N) (by omega)
   by_cases tB:d.ty=[66,111,111,108]
   case pos =>
    cases b with
    | true =>
     left
     simp [i97,i98,i99,e3,ix,ld,opH_alloc,zeroC35,store_ag inf35 sz35,hcl,u1,evC_draw]
     rw [drawC_eq (fl:=[(15,0)])]
     rotate_left
     ·kernel_rfl
     ·intro R hR
      simp [off35_2,load_p inf9 ag9,rd_of u2,c2,str_eq,callF_of Tryz.func45 rfl,bc,callF_of Tryz.func46 rfl,hb,hld,tB] at hR
      subst hR
      simp only [List.all_cons,List.all_nil,Bool.and_true]
      first | rfl | exact recheck_eq rfl rfl rfl (s:=s2) (by simp [hld])
     simp [i0,i97,i98,i99,e4,off35_2,load_p inf9 ag9,rd_of u2,c2,str_eq,callF_of Tryz.func45 rfl,bc,callF_of Tryz.func46 rfl,hb,hld,tB]
    | false =>
     right
     simp [i97,i98,i99,e3,ix,ld,opH_alloc,zeroC35,store_ag inf35 sz35,hcl,u1,evC_draw]
     rw [drawC_eq (fl:=[(15,0)])]
     rotate_left
     ·kernel_rfl
     ·intro R hR
      simp [off35_2,load_p inf9 ag9,rd_of u2,c2,str_eq,callF_of Tryz.func45 rfl,bc,callF_of Tryz.func46 rfl,hb,hld,tB] at hR
      subst hR
      simp only [List.all_cons,List.all_nil,Bool.and_true]
      first | rfl | exact recheck_eq rfl rfl rfl (s:=s2) (by simp [hld])
     simp [off35_2,load_p inf9 ag9,rd_of u2,c2,str_eq,callF_of Tryz.func45 rfl,bc,callF_of Tryz.func46 rfl,hb,hld,tB]
     exact ⟨false,by simp⟩
   by_cases tL:d.ty=[76,105,115,116]
   case pos =>
    cases b with
    | true =>
     left
     simp [i97,i98,i99,e3,ix,ld,opH_alloc,zeroC35,store_ag inf35 sz35,hcl,u1,evC_draw]
     rw [drawC_eq (fl:=[(15,0)])]
     rotate_left
     ·kernel_rfl
     ·intro R hR
      simp [off35_2,load_p inf9 ag9,rd_of u2,c2,str_eq,callF_of Tryz.func45 rfl,bc,callF_of Tryz.func46 rfl,hb,hld,tL] at hR
      subst hR
      simp only [List.all_cons,List.all_nil,Bool.and_true]
      first | rfl | exact recheck_eq rfl rfl rfl (s:=s2) (by simp [hld])
     simp [i0,i97,i98,i99,e4,off35_2,load_p inf9 ag9,rd_of u2,c2,str_eq,callF_of Tryz.func45 rfl,bc,callF_of Tryz.func46 rfl,hb,hld,tL]
    | false =>
     right
     simp [i97,i98,i99,e3,ix,ld,opH_alloc,zeroC35,store_ag inf35 sz35,hcl,u1,evC_draw]
     rw [drawC_eq (fl:=[(15,0)])]
     rotate_left
     ·kernel_rfl
     ·intro R hR
      simp [off35_2,load_p inf9 ag9,rd_of u2,c2,str_eq,callF_of Tryz.func45 rfl,bc,callF_of Tryz.func46 rfl,hb,hld,tL] at hR
      subst hR
      simp only [List.all_cons,List.all_nil,Bool.and_true]
      first | rfl | exact recheck_eq rfl rfl rfl (s:=s2) (by simp [hld])
     simp [off35_2,load_p inf9 ag9,rd_of u2,c2,str_eq,callF_of Tryz.func45 rfl,bc,callF_of Tryz.func46 rfl,hb,hld,tL]
     exact ⟨false,by simp⟩
   by_cases tU:d.ty=[85,110,105,116]
   case pos =>
    cases b with
    | true =>
     left
     simp [i97,i98,i99,e3,ix,ld,opH_alloc,zeroC35,store_ag inf35 sz35,hcl,u1,evC_draw]
     rw [drawC_eq (fl:=[(15,0)])]
     rotate_left
     ·kernel_rfl
     ·intro R hR
      simp [off35_2,load_p inf9 ag9,rd_of u2,c2,str_eq,callF_of Tryz.func45 rfl,bc,callF_of Tryz.func46 rfl,hb,hld,tU] at hR
      subst hR
      simp only [List.all_cons,List.all_nil,Bool.and_true]
      first | rfl | exact recheck_eq rfl rfl rfl (s:=s2) (by simp [hld])
     simp [i0,i97,i98,i99,e4,off35_2,load_p inf9 ag9,rd_of u2,c2,str_eq,callF_of Tryz.func45 rfl,bc,callF_of Tryz.func46 rfl,hb,hld,tU]
    | false =>
     right
     simp [i97,i98,i99,e3,ix,ld,opH_alloc,zeroC35,store_ag inf35 sz35,hcl,u1,evC_draw]
     rw [drawC_eq (fl:=[(15,0)])]
     rotate_left
     ·kernel_rfl
     ·intro R hR
      simp [off35_2,load_p inf9 ag9,rd_of u2,c2,str_eq,callF_of Tryz.func45 rfl,bc,callF_of Tryz.func46 rfl,hb,hld,tU] at hR
      subst hR
      simp only [List.all_cons,List.all_nil,Bool.and_true]
      first | rfl | exact recheck_eq rfl rfl rfl (s:=s2) (by simp [hld])
     simp [off35_2,load_p inf9 ag9,rd_of u2,c2,str_eq,callF_of Tryz.func45 rfl,bc,callF_of Tryz.func46 rfl,hb,hld,tU]
     exact ⟨false,by simp⟩
   left
   simp [i97,i98,i99,e3,ix,ld,opH_alloc,zeroC35,store_ag inf35 sz35,hcl,u1,evC_draw]
   rw [drawC_eq (fl:=[(15,0)])]
   rotate_left
   ·kernel_rfl
   ·intro R hR
    simp [off35_2,load_p inf9 ag9,rd_of u2,c2,str_eq,callF_of Tryz.func45 rfl,bc,callF_of Tryz.func46 rfl,tB,tL,tU] at hR
    subst hR
    simp only [List.all_cons,List.all_nil,Bool.and_true]
    first | rfl | exact recheck_eq rfl rfl rfl (s:=s2) (by simp [hld])
   simp [i0,i97,i98,i99,e4,off35_2,load_p inf9 ag9,rd_of u2,c2,str_eq,tB,tL,tU])
  (by
   rintro t s ⟨i0,i97,i98,i99⟩
   clear hL
   simp [i98,i99])
 clear hL
 rcases lr with ⟨t3,s3,rfl,-⟩ | ⟨t3,s3,rfl,b,hb⟩
 ·exact ⟨true,by simp [resOf_eq,pmapO],fun _=>pA⟩
 ·exact ⟨b,by simp [hb,resOf_eq,pmapO],fun _=>pA⟩
theorem consFine_call {v:AV} {ds:List ConD} (hv:IsCons v ds) (hl:ds.length≤1000000) {N:Nat} (hN:10000000000000000010≤N):∃ b:Bool,∀ st,(Tw c N).call 22 [v] st=some (.b b,st):=by
 obtain ⟨b,h,-⟩:=consFine_ar (c:=c) hv hl hN
 exact ⟨b,h⟩
end
end Go.Proofs.YtbemeikjepjhoaaGreatDoor
namespace Go.Proofs.YtbemeikjepjhoaaGreatDoor
open Go.Ev
set_option maxRecDepth 100000
noncomputable section
variable {c : Option Self} {st : St}
theorem wf90:wfTy Tryz.prog 90=true:=by kernel_rfl
theorem bld90:opBuild1 Tryz.prog 90 []=fun st=>some (.ag [.i .i64 0,.b false],st):=by kernel_rfl
theorem build90 {S:Self} (t:Tr AV) (s:St):opH (.build 90 #[]) Tryz.prog S t s=some (.ag [.i .i64 0,.b false],s):=by
 show @Bool.rec (fun _=>Res) none (opBuild1 Tryz.prog 90 [] s) (wfTy Tryz.prog 90)=_
 rw [wf90,bld90]
def fitsP (b:ExL):Bool:=decide (b.depth≤4096) && decide (b.size≤1048576)
def LongAt (s:St) (r cr:Nat) (cv bv:AV) (b:ExL) (i:Nat):Prop:=(∃ al,s.ce r=some ([cv,bv],r,al))∧r < s.next∧r≠cr∧Ctr s cr (sumTo b.list i)∧sumTo b.list i≤1048576∧∀ j (h:j < b.list.length),j < i→b.list[j].2.depth≤4096
theorem long_call {cv:AV} (hcv:pureV cv=true) (hcs:isSc cv=true) {b:ExL} (hb:b.Ty 1) (hs:b.size≤1000000) {N:Nat} (hN:b.size+10000000000000000010≤N) :
  (Tw c N).call 19 [.ag [cv,b.slice 8]] st=some (.b (!fitsP b),st):=by
 obtain ⟨N,rfl⟩:∃ N',N=N'+1:=⟨N - 1,by omega⟩
 have hp:pureL [.ag [cv,b.slice 8]]=true:=by simp [pureL,pureV,hcv,ExL.slice_pure hb 8]
 refine body_v (X:=[]) rfl rfl (.inr (by decide)) (.pure hp) Tryz.func19 rfl (Nat.le_of_ble_eq_true rfl) rfl ?_
 unfold bodyR
 have lb:=fun st:St=>len_sl (st:=st) Tryz.underlying23 (b.slice_len 8) (b.slice_text 8)
 have hbl:=b.len_le
 have c0:=newCe_ce (st:=st0) [cv,b.slice 8]
 have k0:st0.next < (st0.newCe [cv,b.slice 8]).next:=Nat.lt_succ_self _
 obtain ⟨r,hr⟩:∃ r,st0.next=r:=⟨_,rfl⟩
 obtain ⟨s0,hs0⟩:∃ s,st0.newCe [cv,b.slice 8]=s:=⟨_,rfl⟩
 rw [hr,hs0] at c0 k0
 have c1:=newCe_ce (st:=s0) [.i .i64 0,.b false]
 have kn:=Kp.newCe (st:=s0) [] [] [.i .i64 0,.b false]
 have c01:=kn.ce c0 k0 k0 (by simp) (by simp)
 have k1:s0.next < (s0.newCe [.i .i64 0,.b false]).next:=Nat.lt_succ_self _
 obtain ⟨cr,hcr⟩:∃ r,s0.next=r:=⟨_,rfl⟩
 obtain ⟨s1,hs1⟩:∃ s,s0.newCe [.i .i64 0,.b false]=s:=⟨_,rfl⟩
 rw [hcr,hs1] at c1 k1
 rw [hs1] at c01 kn
 have bc1:rd s1 r 1 1=some [b.slice 8]:=by rw [rd_of c01]; rfl
 simp [Tryz.f19,hr,hs0,build90,hcr,hs1,off25_1,load_p inf23 ag23,bc1,lb,evC_loop]
 generalize hL:loopC _ _ _ _=L
 have lr:=loop_ret hL 0 b.list.length (fun i t s=>tget t 1 = .p r 0∧tget t 3 = .p cr 0∧tget t 9 = .i .i64 (b.len:Int)∧tget t 10 = .i .i64 (i:Int)∧LongAt s r cr cv (b.slice 8) b i) (fun t s=>fitsP b=true) (fun t s=>tget t 2 = .b true∧fitsP b=false) (by rw [← ExL.len_eq]; omega)
  ⟨by simp,by simp,by simp,by simp,⟨_,c01⟩,Nat.lt_of_lt_of_le k0 kn.next,by omega,by rw [sumTo_zero]; exact ⟨⟨_,false,c1⟩,k1⟩,by rw [sumTo_zero]; omega,fun j hj h=>by omega⟩
  (by
   rintro i t s hi ⟨i1,i3,i9,i10,⟨al,iR⟩,iL,iN,iC,iB,iS⟩
   clear hL
   have hil:i < b.len:=by rw [ExL.len_eq]; exact hi
   have e5:(i:Int) < (b.len:Int):=by omega
   have e7:wr .i64 ((i:Int)+1)=((i+1:Nat):Int):=by rw [wr_in (by omega) (by omega)]; rfl
   obtain ⟨q,q1,q2⟩:=part_at hb.pre (show preLen 1+7=8 from rfl) hi
   have ix:=index_rs (P:=Tryz.prog) Tryz.underlying23 inf42 sz42 b.flat b.len i hil
   rw [← ExL.slice_rs hil,q1] at ix
   have hmem:=List.getElem_mem hi
   have hTi:=ExL.ty_list hb _ hmem
   have hsz':=ExL.size_mem hmem
   have hd:(b.list[i].1++(b.list[i].2.cells++q)).drop 1=b.list[i].2.cells++q:=by
    have q2':b.list[i].1.length=1:=q2
    rw [List.drop_append,q2']; simp [q2',List.drop_eq_nil_of_le]
   have bcs:rd s r 1 1=some [b.slice 8]:=by rw [rd_of iR]; rfl
   obtain ⟨bb,n',s',g1,g2,g3,g4⟩:=count_call (c:=c) _ hTi.2.wf cr (sumTo b.list i) 1 s (.rp (b.list[i].2.cells++q)) N (by omega) (by omega) (by omega) iC (.inl ⟨q,rfl⟩)
   have g1':(Tw c N).call 41 [.p cr 0,.rp (b.list[i].2.cells++q),.i .i64 1] s=some (.b bb,s'):=g1
   have iR':=g3.ce iR iL iL (by simp [iN]) (by simp [iN])
   cases bb with
   | true =>
    left
    obtain ⟨y1,y2,y3⟩:=g4.yes rfl
    simp [i1,i3,i9,i10,e5,e7,off25_1,load_p inf23 ag23,bcs,ix,off42_1,hd,callF_of Tryz.func41 rfl,g1']
    refine ⟨_,_,⟨rfl,rfl⟩,by simp [i1],by simp [i3],by simp [i9],by simp,⟨_,iR'⟩,Nat.lt_of_lt_of_le iL g3.next,iN,?_,?_,fun j hj hji=>?_⟩
    ·rw [sumTo_succ hi,← y1]; exact g2
    ·rw [sumTo_succ hi]; exact y3
    ·by_cases hje:j=i
     ·subst hje; omega
     ·exact iS j hj (by omega)
   | false =>
    right
    simp [i1,i3,i9,i10,e5,off25_1,load_p inf23 ag23,bcs,ix,off42_1,hd,callF_of Tryz.func41 rfl,g1']
    rw [Bool.eq_false_iff]
    intro hf
    unfold fitsP at hf
    simp only [Bool.and_eq_true,decide_eq_true_eq] at hf
    have hdp':=ExL.depth_mem hmem
    have hsum:sumTo b.list i+b.list[i].2.size≤b.size:=by
     rw [← sumTo_succ hi]; exact sumTo_le _ hi
    have:=g4.fit (by omega) (by omega)
    cases this)
  (by
   rintro t s ⟨i1,i3,i9,i10,⟨al,iR⟩,iL,iN,iC,iB,iS⟩
   clear hL
   simp [i9,i10,ExL.len_eq]
   unfold fitsP
   rw [sumTo_all] at iB
   have hd:b.depth≤4096:=ExL.depth_le fun j hj=>iS j hj hj
   simp [hd,iB])
 clear hL
 rcases lr with ⟨t1,s1,rfl,hT⟩ | ⟨t1,s1,rfl,hT,hF⟩
 ·rw [hT]; simp [resOf_eq,pmapO]
 ·rw [hF]; simp [hT,resOf_eq,pmapO]
def consF:List ConD→Str→Option AV
 | []=>fun _=>none
 | d :: ds=>upd (consF ds) d.n (.ag d.cells)
theorem consF_wf:∀ ds:List ConD,CWf (consF ds)
 | [],s,v,h=>by cases h
 | d :: ds,s,v,h=>by
  unfold consF upd at h
  split at h
  ·cases h; exact ⟨d.n,d.ar,d.ty,d.tag,rfl⟩
  ·exact consF_wf ds s v h
def blkIn:Code→Code
 | .block _ x=>x
 | x=>x
noncomputable def f20b:Code:=Tryz.f20.body.getD .skip
noncomputable def f20c:Code:=blkIn (cTl (cHd (cTl (cTl f20b))))
def rfA:Code→Code
 | .rangeFunc _ _ a _=>a
 | x=>x
def rfB:Code→Code
 | .rangeFunc _ _ _ b=>b
 | x=>x
noncomputable def f20A:Code:=rfA f20c
noncomputable def f20B:Code:=rfB f20c
theorem tw_code {n nt:Nat} {k:Code} {t:Tr AV}:(Tw c (n+1)).code nt k t st=evC k ⟨Tryz.prog,Tw c n,true,nt,n⟩ t st:=by
 cases c <;> rfl
structure OfAt (s:St) (l r4 r3 cr mr:Nat) (v:AV) (t:Tr AV) (C:Str→Option AV):Prop where
 row:s.get l=some (.lp t 22 [12,13] f20A f20B)
 ll:l < s.next
 c4:∃ al,s.ce r4=some ([v],r4,al)
 c3:∃ al,s.ce r3=some ([.p cr 0],r3,al)
 cc:∃ al,s.ce cr=some ([.m mr,.i .i64 0],cr,al)
 mp:MpF s mr C
 lt:r4 < l∧r3 < l∧cr < l∧mr < l
 ne:r4≠mr∧r3≠mr∧cr≠mr
theorem of_round {s:St} {l r4 r3 cr mr:Nat} {v:AV} {t:Tr AV} {C:Str→Option AV} (h:OfAt s l r4 r3 cr mr v t C) (h3:tget t 3 = .p r3 0) (d:ConD) (i:Int) {N:Nat} (hN:2≤N) :
  ∃ s',round (Tw c N) l [.i .i64 i,.ag d.cells] s=some (.b true,s')∧OfAt s' l r4 r3 cr mr v t (upd C d.n (.ag d.cells))∧Kp [mr,l] [] s s':=by
 obtain ⟨N,rfl⟩:∃ N',N=N'+1:=⟨N - 1,by omega⟩
 obtain ⟨hrow,hll,⟨a4,c4⟩,⟨a3,c3⟩,⟨ac,cc⟩,hmp,⟨l4,l3,lc,lm⟩,n4,n3,nc⟩:=h
 have kd:Kp [l] [] s (s.drop l):=.drop (by simp)
 have nl:∀ x,x < l→x ∉ [l]:=fun x hx=>by simp; omega
 have hcl:d.cells.length=4:=rfl
 obtain ⟨s2,u1,u2,u3,u4⟩:=alloc_store (s:=s.drop l) (z:=zeroL35) (cells:=d.cells) rfl (sc_con d)
 have k2:=kd.trans (u3.sub (by simp) (by simp))
 have mp2:=hmp.keep k2 (by omega) (nl _ lm)
 obtain ⟨s3,v1,v2,v3,v4⟩:=mp2.set mp67 d.n (.ag d.cells)
 have c3':=k2.ce c3 (by omega) (by omega) (nl _ l3) (by simp)
 have cc':=k2.ce cc (by omega) (by omega) (nl _ lc) (by simp)
 have c0:cut d.cells 0 1=some [.s d.n]:=rfl
 have hld:loadAt Tryz.prog 35 s2 (.p (s.drop l).next 0)=some (.ag d.cells):=by
  rw [load_ag inf35 ag35,sz35,rd_of u2]; rfl
 have ptr56:hasInfo Tryz.prog 56=true:=by kernel_rfl
 have ag56:isAg Tryz.prog 56=false:=by kernel_rfl
 unfold round
 rw [hrow]
 have hset:setL 22 [12,13] [.i .i64 i,.ag d.cells] t=some ((t.set 12 (some (.i .i64 i))).set 13 (some (.ag d.cells))):=rfl
 simp only [hset,tw_code]
 have hA:∃ t2,evC f20A ⟨Tryz.prog,Tw c N,true,22,N⟩ ((t.set 12 (some (.i .i64 i))).set 13 (some (.ag d.cells))) (s.drop l) = .nx t2 s2∧tget t2 3 = .p r3 0∧tget t2 5 = .p (s.drop l).next 0:=by
  simp [f20A,f20c,f20b,rfA,blkIn,cHd,cTl,Tryz.f20,opH_alloc,zeroC35,store_ag inf35 sz35,hcl,u1,h3]
 obtain ⟨t2,hA,q3,q5⟩:=hA
 rw [hA]
 show ∃ s',roundEnd l (.lp t 22 [12,13] f20A f20B) ((Tw c (N+1)).code 22 f20B t2 s2)=some (.b true,s')∧OfAt s' l r4 r3 cr mr v t (upd C d.n (.ag d.cells))∧Kp [mr,l] [] s s'
 rw [tw_code]
 have hB:∃ t3,evC f20B ⟨Tryz.prog,Tw c N,true,22,N⟩ t2 s2 = .nx t3 s3:=by
  simp [f20B,f20c,f20b,rfB,blkIn,cHd,cTl,Tryz.f20,evC_draw]
  rw [drawC_nil (by kernel_rfl)]
  simp [q3,q5,load_p ptr56 ag56,rd_of c3',off69_0,load_p inf67 ag67,rd_of cc',off35_0,load_p inf9 ag9,rd_of u2,c0,hld,v1]
 obtain ⟨t3,hB⟩:=hB
 rw [hB]
 have k3:Kp [mr,l] [] s s3:=(k2.sub (by simp) (by simp)).trans (v3.sub (by simp) (by simp))
 have k4:Kp [mr,l] [] s (s3.put l (.lp t 22 [12,13] f20A f20B)):=k3.trans (.put (by simp))
 have kp:∀ x,x < l→x≠mr→x ∉ [mr,l]:=fun x h1 h2=>by simp; omega
 refine ⟨_,rfl,⟨put_get _ _,Nat.lt_of_lt_of_le hll k4.next,⟨_,k4.ce c4 (by omega) (by omega) (kp _ l4 n4) (by simp)⟩,⟨_,k4.ce c3 (by omega) (by omega) (kp _ l3 n3) (by simp)⟩,⟨_,k4.ce cc (by omega) (by omega) (kp _ lc nc) (by simp)⟩,
  v2.keep (Kp.put (A:=[l]) (B:=[]) (by simp)) (Nat.lt_of_lt_of_le (by omega) k3.next) (nl _ lm),⟨l4,l3,lc,lm⟩,n4,n3,nc⟩,k4⟩
end
end Go.Proofs.YtbemeikjepjhoaaGreatDoor
namespace Go.Proofs.YtbemeikjepjhoaaGreatDoor
open Go.Ev
set_option maxRecDepth 100000
noncomputable section
variable {c : Option Self} {st : St}
@[simp] theorem evO_fn0 (t:Tr AV):evO t (.const .nilFunc) = .fn0:=rfl
theorem back_call {v:AV} (hv:v.cells=some [v]) {N:Nat} (hN:1≤N):(Tw c N).call 42 [v] st=some (.f (.func 60) [] [.p st.next 0],st.newCe [v]):=by
 obtain ⟨N,rfl⟩:∃ N',N=N'+1:=⟨N - 1,by omega⟩
 rw [body_out rfl Tryz.func42 rfl (Nat.le_of_ble_eq_true rfl)]; unfold bodyR
 simp [Tryz.f42,hv,resOf_eq,pmapO]
theorem ofAt_go {s:St} {l r4 r3 cr mr:Nat} {v:AV} {tq:Tr AV} {ds:List ConD} (hv:IsCons v ds) (hl:ds.length≤1000000) (h:OfAt s l r4 r3 cr mr v tq (consF [])) (h3:tget tq 3 = .p r3 0) {N:Nat} (hN:10000000000000000010≤N) :
  ∃ s',(Tw c N).call 60 [.f (.yield l) [] [],.p r4 0] s=some (.tu [],s')∧OfAt s' l r4 r3 cr mr v tq (consF ds)∧Kp [mr,l] [] s s':=by
 obtain ⟨N,rfl⟩:∃ N',N=N'+1:=⟨N - 1,by omega⟩
 rw [body_out rfl Tryz.func60 rfl (Nat.le_of_ble_eq_true rfl)]; unfold bodyR
 have ln:=fun st:St=>cons_len (st:=st) hv
 obtain ⟨a4,c4⟩:=h.c4
 have e0:wr .i64 ((ds.length:Int) - 1)=(ds.length:Int) - 1:=wr_in (by omega) (by omega)
 have b4:rd s r4 0 1=some [v]:=by rw [rd_of c4]; rfl
 simp [Tryz.f60,load_p inf22 ag22,b4,ln,e0,evC_loop]
 generalize hL:loopC _ _ _ _=L
 obtain ⟨t1,s1,rfl,z1,z2⟩:=loop_use hL 0 ds.length
  (fun i t s'=>tget t 0 = .f (.yield l) [] []∧tget t 1 = .p r4 0∧tget t 3 = .i .i64 ((ds.length:Int) - 1 - i)∧OfAt s' l r4 r3 cr mr v tq (consF (ds.drop (ds.length - i)))∧Kp [mr,l] [] s s')
  (fun t s'=>OfAt s' l r4 r3 cr mr v tq (consF ds)∧Kp [mr,l] [] s s') (by omega)
  ⟨by simp,by simp,by simp,by simpa using h,.refl _ _ _⟩
  (by
   rintro i t s' hi ⟨i0,i1,i3,iO,iK⟩
   clear hL
   obtain ⟨m,hm⟩:∃ m,ds.length - i=m+1:=⟨ds.length - i - 1,by omega⟩
   have hmd:m < ds.length:=by omega
   have e1:(ds.length:Int) - 1 - (i:Int)=(m:Int):=by omega
   rw [e1] at i3
   have e4:wr .i64 ((m:Int) - 1)=(m:Int) - 1:=wr_in (by omega) (by omega)
   obtain ⟨q,ix⟩:=con_at hv hmd
   have ld:=fun st:St=>con_load (st:=st) ds[m] q
   obtain ⟨x4,d4⟩:=iO.c4
   have b4':rd s' r4 0 1=some [v]:=by rw [rd_of d4]; rfl
   obtain ⟨s2,r1,r2,r3'⟩:=of_round (c:=c) iO h3 ds[m] (m:Int) (N:=N) (by omega)
   simp [i0,i1,i3,load_p inf22 ag22,b4',ix,ld,r1,e4]
   refine ⟨_,_,⟨rfl,rfl⟩,by simp [i0],by simp [i1],by simp; omega,?_,iK.trans r3'⟩
   rw [show ds.length - (i+1)=m by omega,List.drop_eq_getElem_cons hmd]
   rw [hm] at r2
   exact r2)
  (by
   rintro t s' ⟨i0,i1,i3,iO,iK⟩
   clear hL
   have e1:¬ (ds.length:Int)≤(ds.length:Int) - 1:=by omega
   simp [i3,e1]
   exact ⟨_,_,⟨rfl,rfl⟩,by simpa using iO,iK⟩)
 clear hL
 refine ⟨s1,?_,z1,z2⟩
 simp [resOf_eq,pmapO]
theorem wt_next {s s':St} {r o:Nat} {vs:List AV} (h:wt s r o vs=some s'):s'.next=s.next:=by
 unfold wt at h
 split at h
 ·obtain ⟨-,h⟩:=bor h
  cases h; rfl
 ·cases h
theorem zeroC69:zeroC Tryz.prog 69=some [.mn,.i .i64 0]:=by kernel_rfl
theorem zeroC56:zeroC Tryz.prog 56=some [.pn]:=by kernel_rfl
theorem inf56:hasInfo Tryz.prog 56=true:=by kernel_rfl
theorem ag56:isAg Tryz.prog 56=false:=by kernel_rfl
theorem sz56:szOf Tryz.prog 56=1:=by kernel_rfl
theorem wf69:wfTy Tryz.prog 69=true:=by kernel_rfl
theorem place69:∃ fs,Tryz.prog.underlying 69=some (.struct fs)∧placeF Tryz.prog fs 0=some (0,1):=⟨_,Tryz.underlying69,by kernel_rfl⟩
theorem build69 {S:Self} {t:Tr AV} {x:Operand} {r:Nat} (hx:evO t x = .m r):opH (.build 69 #[(0,x)]) Tryz.prog S t st=some (.ag [.m r,.i .i64 0],st):=by
 obtain ⟨fs,h1,h2⟩:=place69
 show @Bool.rec (fun _=>Res) none (opBuild1 Tryz.prog 69 [(0,evO t x)] st) (wfTy Tryz.prog 69)=_
 rw [wf69,hx]
 show opBuild1 Tryz.prog 69 [(0,.m r)] st=_
 unfold opBuild1
 rw [h1]
 simp only [zeroC69,fillAg,fill,h2,cells_m]
 rfl
def OfRes (o:Option (AV × St)) (st:St) (ds:List ConD):Prop:=∃ st' cr mr,o=some (.p cr 0,st')∧Ck st' cr mr 0 (consF ds)∧Kp [] [] st st'∧st.next≤cr∧st.next≤mr
theorem of_call {cv bv:AV} {ds:List ConD} (hv:IsCons cv ds) (hc:cv.cells=some [cv]) (hl:ds.length≤1000000) {N:Nat} (hN:10000000000000000020≤N):OfRes ((Tw c N).call 20 [.ag [cv,bv]] st) st ds:=by
 obtain ⟨N,rfl⟩:∃ N',N=N'+1:=⟨N - 1,by omega⟩
 rw [body_out rfl Tryz.func20 rfl (Nat.le_of_ble_eq_true rfl)]; unfold bodyR
 show OfRes (endF Tryz.prog Tryz.f20.results.toList (thenC (evC (cHd f20b) ⟨Tryz.prog,Tw c N,false,Tryz.f20.ntmps,N⟩ (tmpsOf [.ag [cv,bv]] 0 .lf) st) (fun t s=>thenC (evC (cHd (cTl f20b)) ⟨Tryz.prog,Tw c N,false,Tryz.f20.ntmps,N⟩ t s)
  (fun t s=>thenC (thenC (evC (cHd (cHd (cTl (cTl f20b)))) ⟨Tryz.prog,Tw c N,false,Tryz.f20.ntmps,N⟩ t s) (fun t s=>blockC 0 (rangeC ⟨Tryz.prog,Tw c N,false,Tryz.f20.ntmps,N⟩ #[12,13] f20A f20B t s (evO t (.tmp 11))))) (evC (cTl (cTl (cTl f20b))) ⟨Tryz.prog,Tw c N,false,Tryz.f20.ntmps,N⟩))))) st ds
 have c0:=newCe_ce (st:=st) [cv,bv]
 have k0:=Kp.newCe (st:=st) [] [] [cv,bv]
 have n0:(st.newCe [cv,bv]).next=st.next+1:=rfl
 obtain ⟨s0,hs0⟩:∃ s,st.newCe [cv,bv]=s:=⟨_,rfl⟩
 rw [hs0] at c0 k0 n0
 have a0:∃ t,evC (cHd f20b) ⟨Tryz.prog,Tw c N,false,Tryz.f20.ntmps,N⟩ (tmpsOf [.ag [cv,bv]] 0 .lf) st = .nx t s0∧tget t 1 = .p st.next 0:=by
  simp [f20b,cHd,Tryz.f20,hs0]
 obtain ⟨t1,a0,p1⟩:=a0
 have m1:=MpF.new s0
 have k1:=Kp.new (st:=s0) [] [] (.mp [] 0)
 have n1:(s0.new (.mp [] 0)).next=st.next+2:=by show s0.next+1=_; omega
 obtain ⟨s1,hs1⟩:∃ s,s0.new (.mp [] 0)=s:=⟨_,rfl⟩
 rw [hs1] at m1 k1 n1
 rw [n0] at m1
 have c2:=newCe_ce (st:=s1) [.m (st.next+1),.i .i64 0]
 have k2:=Kp.newCe (st:=s1) [] [] [.m (st.next+1),.i .i64 0]
 have n2:(s1.newCe [.m (st.next+1),.i .i64 0]).next=st.next+3:=by show s1.next+1=_; omega
 obtain ⟨s2,hs2⟩:∃ s,s1.newCe [.m (st.next+1),.i .i64 0]=s:=⟨_,rfl⟩
 rw [hs2] at c2 k2 n2
 rw [n1] at c2
 obtain ⟨s3,w1,w2,w3,w4⟩:=alloc_store (s:=s2) (z:=[.pn]) (cells:=[.p (st.next+2) 0]) rfl rfl
 have n3:s3.next=st.next+4:=by
  have:=wt_next w1
  rw [this]; show s2.next+1=_; omega
 rw [n2] at w1 w2
 have a1:∃ t,evC (cHd (cTl f20b)) ⟨Tryz.prog,Tw c N,false,Tryz.f20.ntmps,N⟩ t1 s0 = .nx t s3∧tget t 1 = .p st.next 0∧tget t 3 = .p (st.next+3) 0:=by
  have bo:=fun (t:Tr AV) (q:evO t (.tmp 6) = .m (st.next+1))=>build69 (st:=s1) (S:=Tw c N) (t:=t) q
  simp [f20b,cHd,cTl,Tryz.f20,n0,hs1,bo,n1,hs2,opH_alloc,zeroC56,n2,store_p inf56 sz56,w1,p1]
 obtain ⟨t2,a1,q1,q3⟩:=a1
 have kk:Kp [] [] s0 s3:=(k1.trans k2).trans w3
 have c0':=kk.ce c0 (by omega) (by omega) (by simp) (by simp)
 have b0:rd s3 st.next 0 1=some [cv]:=by rw [rd_of c0']; rfl
 have bk:=back_call (c:=c) (st:=s3) hc (N:=N) (by omega)
 have c4:=newCe_ce (st:=s3) [cv]
 have k4:=Kp.newCe (st:=s3) [] [] [cv]
 have n4:(s3.newCe [cv]).next=st.next+5:=by show s3.next+1=_; omega
 obtain ⟨s4,hs4⟩:∃ s,s3.newCe [cv]=s:=⟨_,rfl⟩
 rw [hs4] at c4 k4 n4 bk
 rw [n3] at c4 bk
 have a2:∃ t,evC (cHd (cHd (cTl (cTl f20b)))) ⟨Tryz.prog,Tw c N,false,Tryz.f20.ntmps,N⟩ t2 s3 = .nx t s4∧tget t 3 = .p (st.next+3) 0∧evO t (.tmp 11) = .f (.func 60) [] [.p (st.next+4) 0]:=by
  simp [f20b,cHd,cTl,Tryz.f20,q1,q3,off25_0,load_p inf22 ag22,b0,callF_of Tryz.func42 rfl,bk]
 obtain ⟨t3,a2,r3,r11⟩:=a2
 have k5:=Kp.new (st:=s4) [] [] (.lp t3 22 [12,13] f20A f20B)
 have n5:(s4.new (.lp t3 22 [12,13] f20A f20B)).next=st.next+6:=by show s4.next+1=_; omega
 have g5:(s4.new (.lp t3 22 [12,13] f20A f20B)).get (st.next+5)=some (.lp t3 22 [12,13] f20A f20B):=by rw [St.get_new,if_pos n4.symm]
 obtain ⟨s5,hs5⟩:∃ s,s4.new (.lp t3 22 [12,13] f20A f20B)=s:=⟨_,rfl⟩
 rw [hs5] at k5 n5 g5
 have w2':=(k4.trans k5).ce w2 (by omega) (by omega) (by simp) (by simp)
 have c2':=((w3.trans k4).trans k5).ce c2 (by omega) (by omega) (by simp) (by simp)
 have c4':=k5.ce c4 (by omega) (by omega) (by simp) (by simp)
 have m5:=m1.keep (((k2.trans w3).trans k4).trans k5) (by omega) (by simp)
 have O5:OfAt s5 (st.next+5) (st.next+4) (st.next+3) (st.next+2) (st.next+1) cv t3 (consF []):=⟨g5,by omega,⟨_,c4'⟩,⟨_,w2'⟩,⟨_,c2'⟩,m5,by omega,by omega⟩
 obtain ⟨s6,x1,x2,x3⟩:=ofAt_go (c:=c) hv hl O5 r3 (N:=N) (by omega)
 have hr:rangeC ⟨Tryz.prog,Tw c N,false,Tryz.f20.ntmps,N⟩ #[12,13] f20A f20B t3 s4 (.f (.func 60) [] [.p (st.next+4) 0]) = .nx t3 (s6.drop (st.next+5)):=by
  show (match callF0 Tryz.prog (Tw c N) 60 ([]++([.f (.yield s4.next) [] []]++[.p (st.next+4) 0])) (s4.new (.lp t3 22 [12,13] f20A f20B)) with
   | some (_,st')=>rangeEnd t3 st' s4.next (st'.get s4.next)
   | none=>.no)=_
  rw [hs5,n4]
  have hcf:callF0 Tryz.prog (Tw c N) 60 ([]++([.f (.yield (st.next+5)) [] []]++[.p (st.next+4) 0])) s5=some (.tu [],s6):=by
   unfold callF0
   rw [Tryz.func60]
   exact x1
  rw [hcf]
  show rangeEnd t3 s6 (st.next+5) (s6.get (st.next+5))=_
  rw [x2.row]
  rfl
 rw [a0,thenC_nx,a1,thenC_nx,a2,thenC_nx,r11,hr]
 obtain ⟨y3,c3f⟩:=x2.c3
 have kd:=Kp.drop (st:=s6) (A:=[st.next+5]) (B:=[]) (r:=st.next+5) (by simp)
 have c3d:=kd.ce c3f (by have:=x2.ll; omega) (by have:=x2.ll; omega) (by simp) (by simp)
 obtain ⟨yc,ccf⟩:=x2.cc
 have ccd:=kd.ce ccf (by have:=x2.ll; omega) (by have:=x2.ll; omega) (by simp) (by simp)
 have md:=x2.mp.keep kd (by have:=x2.ll; omega) (by simp)
 have hll:=x2.ll
 have hnx:st.next+5 < (s6.drop (st.next+5)).next:=hll
 have b3:rd (s6.drop (st.next+5)) (st.next+3) 0 1=some [.p (st.next+2) 0]:=by rw [rd_of c3d]; rfl
 refine ⟨s6.drop (st.next+5),st.next+2,st.next+1,?_,⟨⟨_,ccd⟩,by omega,by omega,by omega,md,.inl rfl⟩,?_,by omega,by omega⟩
 ·simp [f20b,cTl,Tryz.f20,r3,load_p inf56 ag56,b3,resOf_eq,pmapO]
 ·have h1:Kp [] [] st s5:=(k0.trans kk).trans (k4.trans k5)
  have h2:=kp_new h1 x3 (fun x hx=>by simp at hx; omega) (by simp)
  exact kp_new h2 kd (fun x hx=>by simp at hx; omega) (by simp)
end
end Go.Proofs.YtbemeikjepjhoaaGreatDoor
