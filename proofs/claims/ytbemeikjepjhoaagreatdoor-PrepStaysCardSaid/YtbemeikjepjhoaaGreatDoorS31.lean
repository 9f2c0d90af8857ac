/-
  A number's text: the library's road for numbers of three to six digits, carried out; what it answers is told by the library's contract.
-/
import Derived.Test.YtbemeikjepjhoaaGreatDoorS28
import Derived.Test.YtbemeikjepjhoaaGreatDoorS29
import Derived.Test.YtbemeikjepjhoaaGreatDoorS30
import Derived.KernelRfl
namespace Go.Proofs.YtbemeikjepjhoaaGreatDoor
open Go.Ev
set_option maxRecDepth 100000
noncomputable section
variable {st : St}
namespace It
theorem inf5:hasInfo Tryz.prog 5=true:=by kernel_rfl
theorem sz5:szOf Tryz.prog 5=1:=by kernel_rfl
def TB (n:Nat):Self:=selfW Tryz.prog (withF (digF 95 Lib.nDigits)) n
theorem tb_ok (n:Nat):SelfOK Tryz.prog (TB n):=selfW_ok (noNG_spec noGoroutines) mixedOrders (fun S hS=>withF_ok (digF_ok fun n w h1 h2 h=>dig_calls n w h1 h2 h) S hS) n
def bodyB (n:Nat) (fn:Func) (code:Code) (xs:List AV) (st:St):Option (AV × St) :=
 endF Tryz.prog fn.results.toList (evC code ⟨Tryz.prog,TB n,false,fn.ntmps,n⟩ (tmpsOf xs 0 .lf) st)
theorem tb_out {n f:Nat} {xs:List AV} {fn:Func} {code:Code} (h:f≠95) (hf:Tryz.prog.funcs[f]? = some fn) (hb:fn.body=some code) (hn:xs.length≤fn.ntmps) (hd:defers 4 code=false:=by rfl) :
  (TB (n+1)).call f xs st=bodyB n fn code xs st:=by
 show (withF _ _).call f xs st=_
 rw [withF_out (digF_out h)]
 exact body_at hf hb hn hd
theorem dig_call {n m:Nat} (h:Tabled st) (h1:1≤m) (h2:m < 18446744073709551616):(TB (n+1)).call 95 [.i .u64 (m:Int)] st=some (.i .i64 (Lib.nDigits m:Int),st):=by
 show (withF _ _).call 95 _ st=_
 exact withF_in (digF_in h h1 h2)
end It
open It
theorem wr_u64 {x:Int} (h0:0≤x) (h1:x < 18446744073709551616):wr .u64 x=x:=by
 have:IntKind.u64.wrap x=x:=by
  unfold IntKind.wrap
  simp [IntKind.signed,IntKind.bits]
  omega
 unfold wr
 cases x <;> exact this
theorem wr_u32 {x:Int} (h0:0≤x) (h1:x < 4294967296):wr .u32 x=x:=by
 have:IntKind.u32.wrap x=x:=by
  unfold IntKind.wrap
  simp [IntKind.signed,IntKind.bits]
  omega
 unfold wr
 cases x <;> exact this
theorem wr_u8 {x:Int} (h0:0≤x) (h1:x < 256):wr .u8 x=x:=by
 have:IntKind.u8.wrap x=x:=by
  unfold IntKind.wrap
  simp [IntKind.signed,IntKind.bits]
  omega
 unfold wr
 cases x <;> exact this
theorem bin_mul {P:Program} {ty:TypeId} {k:IntKind} {b:Bool} {x y:Int}:Go.Ev.binOp P ty b .mul (.i k x) (.i k y)=some (.i k (wr k (x * y))):=binOp_ii
theorem bin_quo {P:Program} {ty:TypeId} {k:IntKind} {b:Bool} {x y:Int} (h:y≠0):Go.Ev.binOp P ty b .quo (.i k x) (.i k y)=some (.i k (wr k (x.tdiv y))):=by
 rw [binOp_ii]
 show intDivOk y _=_
 unfold intDivOk
 rw [ieq_eq,decide_eq_false h]
theorem conv_ii {P:Program} {src dst:TypeId} {d:TypeDesc} {k k':IntKind} (h1:P.underlying src=some d) (h2:P.underlying dst=some (.int k)) (n:Int):conv P st src dst (.i k' n)=some (.i k (wr k n),st):=by
 unfold conv
 simp only [h1,h2]
@[simp] theorem opH_convert {P:Program} {S:Self} {t:Tr AV} {src dst:TypeId} {x:Operand}:opH (.convert src dst x) P S t st=conv P st src dst (evO t x):=rfl
theorem index_s' {P:Program} {ty:TypeId} {kd:IntKind} (h:isStr P ty=true) {l:Str} (hl:∀ b,b ∈ l→b < 256) {x:Int} (h0:0≤x) (h1:x < l.length):∃ b:Nat,b < 256∧index P ty (.s l) (.i kd x)=some (.i .u8 (b:Int)):=by
 obtain ⟨k,rfl⟩:∃ k:Nat,x=(k:Int):=⟨x.toNat,by omega⟩
 have hk:k < l.length:=by omega
 refine ⟨l[k],hl _ (List.getElem_mem hk),?_⟩
 show @Bool.rec (fun _=>Option AV) none (byteAt k l) (isStr P ty)=_
 rw [h]
 show byteAt k l=_
 unfold byteAt
 rw [List.drop_eq_getElem_cons hk]
 rfl
def smL:Str:=[48,48,48,49,48,50,48,51,48,52,48,53,48,54,48,55,48,56,48,57,49,48,49,49,49,50,49,51,49,52,49,53,49,54,49,55,49,56,49,57,50,48,50,49,50,50,50,51,50,52,50,53,50,54,50,55,50,56,50,57,51,48,51,49,51,50,51,51,51,52,51,53,51,54,51,55,51,56,51,57,52,48,52,49,52,50,52,51,52,52,52,53,52,54,52,55,52,56,52,57,53,48,53,49,53,50,53,51,53,52,53,53,53,54,53,55,53,56,53,57,54,48,54,49,54,50,54,51,54,52,54,53,54,54,54,55,54,56,54,57,55,48,55,49,55,50,55,51,55,52,55,53,55,54,55,55,55,56,55,57,56,48,56,49,56,50,56,51,56,52,56,53,56,54,56,55,56,56,56,57,57,48,57,49,57,50,57,51,57,52,57,53,57,54,57,55,57,56,57,57]
theorem smL_lt:∀ b,b ∈ smL→b < 256:=by decide
theorem smL_at (x:Int) (h0:0≤x) (h1:x < 200):∃ b:Nat,b < 256∧index Tryz.prog 9 (.s smL) (.i .u32 x)=some (.i .u8 (b:Int)):=index_s' (by kernel_rfl) smL_lt h0 h1
theorem wt_by {s:St} {r g:Nat} {al:List Nat} {L:List AV} (hc:s.ce r=some (L,g,al)) {o:Nat} (ho:o < L.length) (b:Int):∃ s',wt s r o [.i .u8 b]=some s'∧s'.ce r=some (ovr L o [.i .u8 b],g,[r])∧Kp [r] [g] s s':=by
 exact ⟨_,wt_of hc o _ (by simp; omega) (by simp),setCe_ce _ _ _,.setCe (by simp) (by simp)⟩
def z24:List AV:=List.replicate 24 (.i .u8 0)
def FmtRes (o:Option (AV × St)) (st:St) (r g d:Nat):Prop:=∃ s' L',∃ bs:List Nat,o=some (.tu [],s')∧s'.ce r=some (L',g,[r])∧L'.length=24∧cut L' 1 d=some (bs.map fun b:Nat=>AV.i .u8 (b:Int))∧(∀ b,b ∈ bs→b < 256)∧Kp [r] [g] st s'
theorem fmt3 (n:Nat) (h1:100≤n) (h2:n < 1000) {r g:Nat} {al:List Nat} {cap:Option Nat} (hc:st.ce r=some (z24,g,al)) {N:Nat} (hN:10≤N) :
  FmtRes ((TB N).call 96 [.sl r 1 3 1 cap,.i .u64 (n:Int)] st) st r g 3:=by
 obtain ⟨N,rfl⟩:∃ N',N=N'+1:=⟨N - 1,by omega⟩
 rw [tb_out (by decide) Tryz.func96 rfl (Nat.le_of_ble_eq_true rfl)]; unfold bodyB
 have ln:=fun st:St=>len_sl (P:=Tryz.prog) (st:=st) (v:=.sl r 1 3 1 cap) Tryz.underlying140 (n:=3) rfl rfl
 have lp:∀ (b:Tr AV→St→Out) (t:Tr AV) (s:St),loopC b N t s=thenC (b t s) (loopC b (N - 1)):=fun b t s=>by
  obtain ⟨M,rfl⟩:∃ M,N=M+1:=⟨N - 1,by omega⟩
  rfl
 obtain ⟨u,hu,u0,u1⟩:∃ u:Int,wr .u32 (n:Int)=u∧100≤u∧u < 1000:=⟨_,rfl,by rw [wr_u32 (by omega) (by omega)]; omega,by rw [wr_u32 (by omega) (by omega)]; omega⟩
 obtain ⟨m,hm,m0,m1⟩:∃ v:Int,u.tmod 100=v∧0≤v∧v < 100:=⟨_,rfl,by rw [Int.tmod_eq_emod_of_nonneg (by omega)]; omega,by rw [Int.tmod_eq_emod_of_nonneg (by omega)]; omega⟩
 obtain ⟨m2,hm2,m20,m21⟩:∃ v:Int,wr .u32 (m * 2)=v∧0≤v∧v < 199:=⟨_,rfl,by rw [wr_u32 (by omega) (by omega)]; omega,by rw [wr_u32 (by omega) (by omega)]; omega⟩
 obtain ⟨w,hw,w0,w1⟩:∃ v:Int,wr .u32 (u.tdiv 100)=v∧0≤v∧v < 10:=⟨_,rfl,by rw [Int.tdiv_eq_ediv_of_nonneg (by omega),wr_u32 (by omega) (by omega)]; omega,by rw [Int.tdiv_eq_ediv_of_nonneg (by omega),wr_u32 (by omega) (by omega)]; omega⟩
 obtain ⟨mi,hmi,mi0,mi1⟩:∃ v:Int,wr .u32 (m2+1)=v∧0≤v∧v < 200:=⟨_,rfl,by rw [wr_u32 (by omega) (by omega)]; omega,by rw [wr_u32 (by omega) (by omega)]; omega⟩
 obtain ⟨y,hy,y0,y1⟩:∃ v:Int,wr .u32 (48+w)=v∧48≤v∧v < 58:=⟨_,rfl,by rw [wr_u32 (by omega) (by omega)]; omega,by rw [wr_u32 (by omega) (by omega)]; omega⟩
 obtain ⟨y8,hy8,y80,y81⟩:∃ v:Int,wr .u8 y=v∧48≤v∧v < 58:=⟨_,rfl,by rw [wr_u8 (by omega) (by omega)]; omega,by rw [wr_u8 (by omega) (by omega)]; omega⟩
 obtain ⟨b1,lb1,i1⟩:=smL_at mi (by omega) (by omega)
 obtain ⟨b2,lb2,i2⟩:=smL_at m2 (by omega) (by omega)
 obtain ⟨b3,rfl⟩:∃ b:Nat,y8=(b:Int):=⟨y8.toNat,by omega⟩
 have lb3:b3 < 256:=by omega
 unfold smL at i1 i2
 have x0:=index_sl (P:=Tryz.prog) Tryz.underlying140 inf5 sz5 r 1 3 0 cap (by decide)
 have x1:=index_sl (P:=Tryz.prog) Tryz.underlying140 inf5 sz5 r 1 3 1 cap (by decide)
 have x2:=index_sl (P:=Tryz.prog) Tryz.underlying140 inf5 sz5 r 1 3 2 cap (by decide)
 simp at x0 x1 x2
 obtain ⟨s1,g1,c1,k1⟩:=wt_by hc (o:=3) (by simp [z24]) (b1:Int)
 simp [z24] at c1
 obtain ⟨s2,g2,c2,k2⟩:=wt_by c1 (o:=2) (by simp) (b2:Int)
 simp at c2
 obtain ⟨s3,g3,c3,k3⟩:=wt_by c2 (o:=1) (by simp) (b3:Int)
 simp at c3
 simp only [Tryz.f96]
 simp [-evO_s,ln,evC_loop,lp,evC_draw,conv_ii Tryz.underlying137 Tryz.underlying148,bin_rem,bin_quo,bin_mul,hu,hm,hm2,hw]
 rw [drawC_nil (by kernel_rfl)]
 simp [conv_ii Tryz.underlying148 Tryz.underlying5,store_p inf5 sz5,hmi,hy,hy8,show wr .i64 1=1 from rfl,show wr .i64 2=2 from rfl,i1,i2,x0,x1,x2,g1,g2,g3,resOf_eq,pmapO]
 exact ⟨s3,_,[b3,b2,b1],rfl,c3,rfl,rfl,by simp; omega,((k1).trans k2).trans k3⟩
theorem fmt4 (n:Nat) (h1:1000≤n) (h2:n < 10000) {r g:Nat} {al:List Nat} {cap:Option Nat} (hc:st.ce r=some (z24,g,al)) {N:Nat} (hN:10≤N) :
  FmtRes ((TB N).call 96 [.sl r 1 4 1 cap,.i .u64 (n:Int)] st) st r g 4:=by
 obtain ⟨N,rfl⟩:∃ N',N=N'+1:=⟨N - 1,by omega⟩
 rw [tb_out (by decide) Tryz.func96 rfl (Nat.le_of_ble_eq_true rfl)]; unfold bodyB
 have ln:=fun st:St=>len_sl (P:=Tryz.prog) (st:=st) (v:=.sl r 1 4 1 cap) Tryz.underlying140 (n:=4) rfl rfl
 have lp:∀ (b:Tr AV→St→Out) (t:Tr AV) (s:St),loopC b N t s=thenC (b t s) (loopC b (N - 1)):=fun b t s=>by
  obtain ⟨M,rfl⟩:∃ M,N=M+1:=⟨N - 1,by omega⟩
  rfl
 obtain ⟨u,hu,u0,u1⟩:∃ u:Int,wr .u32 (n:Int)=u∧1000≤u∧u < 10000:=⟨_,rfl,by rw [wr_u32 (by omega) (by omega)]; omega,by rw [wr_u32 (by omega) (by omega)]; omega⟩
 obtain ⟨p,hp,p0,p1⟩:∃ v:Int,u.tmod 10000=v∧0≤v∧v < 10000:=⟨_,rfl,by rw [Int.tmod_eq_emod_of_nonneg (by omega)]; omega,by rw [Int.tmod_eq_emod_of_nonneg (by omega)]; omega⟩
 obtain ⟨q,hq,q0,q1⟩:∃ v:Int,wr .u32 (u.tdiv 10000)=v∧0≤v∧v < 1:=⟨_,rfl,by rw [Int.tdiv_eq_ediv_of_nonneg (by omega),wr_u32 (by omega) (by omega)]; omega,by rw [Int.tdiv_eq_ediv_of_nonneg (by omega),wr_u32 (by omega) (by omega)]; omega⟩
 obtain ⟨pq,hpq,pq0,pq1⟩:∃ v:Int,wr .u32 (p.tdiv 100)=v∧0≤v∧v < 100:=⟨_,rfl,by rw [Int.tdiv_eq_ediv_of_nonneg (by omega),wr_u32 (by omega) (by omega)]; omega,by rw [Int.tdiv_eq_ediv_of_nonneg (by omega),wr_u32 (by omega) (by omega)]; omega⟩
 obtain ⟨pq2,hpq2,pq20,pq21⟩:∃ v:Int,wr .u32 (pq * 2)=v∧0≤v∧v < 199:=⟨_,rfl,by rw [wr_u32 (by omega) (by omega)]; omega,by rw [wr_u32 (by omega) (by omega)]; omega⟩
 obtain ⟨pm,hpm,pm0,pm1⟩:∃ v:Int,p.tmod 100=v∧0≤v∧v < 100:=⟨_,rfl,by rw [Int.tmod_eq_emod_of_nonneg (by omega)]; omega,by rw [Int.tmod_eq_emod_of_nonneg (by omega)]; omega⟩
 obtain ⟨pm2,hpm2,pm20,pm21⟩:∃ v:Int,wr .u32 (pm * 2)=v∧0≤v∧v < 199:=⟨_,rfl,by rw [wr_u32 (by omega) (by omega)]; omega,by rw [wr_u32 (by omega) (by omega)]; omega⟩
 obtain ⟨pqi,hpqi,pqi0,pqi1⟩:∃ v:Int,wr .u32 (pq2+1)=v∧0≤v∧v < 200:=⟨_,rfl,by rw [wr_u32 (by omega) (by omega)]; omega,by rw [wr_u32 (by omega) (by omega)]; omega⟩
 obtain ⟨pmi,hpmi,pmi0,pmi1⟩:∃ v:Int,wr .u32 (pm2+1)=v∧0≤v∧v < 200:=⟨_,rfl,by rw [wr_u32 (by omega) (by omega)]; omega,by rw [wr_u32 (by omega) (by omega)]; omega⟩
 obtain ⟨b1,lb1,i1⟩:=smL_at pmi (by omega) (by omega)
 obtain ⟨b2,lb2,i2⟩:=smL_at pm2 (by omega) (by omega)
 obtain ⟨b3,lb3,i3⟩:=smL_at pqi (by omega) (by omega)
 obtain ⟨b4,lb4,i4⟩:=smL_at pq2 (by omega) (by omega)
 unfold smL at i1 i2 i3 i4
 have x0:=index_sl (P:=Tryz.prog) Tryz.underlying140 inf5 sz5 r 1 4 0 cap (by decide)
 have x1:=index_sl (P:=Tryz.prog) Tryz.underlying140 inf5 sz5 r 1 4 1 cap (by decide)
 have x2:=index_sl (P:=Tryz.prog) Tryz.underlying140 inf5 sz5 r 1 4 2 cap (by decide)
 have x3:=index_sl (P:=Tryz.prog) Tryz.underlying140 inf5 sz5 r 1 4 3 cap (by decide)
 simp at x0 x1 x2 x3
 obtain ⟨s1,g1,c1,k1⟩:=wt_by hc (o:=4) (by simp [z24]) (b1:Int)
 simp [z24] at c1
 obtain ⟨s2,g2,c2,k2⟩:=wt_by c1 (o:=3) (by simp) (b2:Int)
 simp at c2
 obtain ⟨s3,g3,c3,k3⟩:=wt_by c2 (o:=2) (by simp) (b3:Int)
 simp at c3
 obtain ⟨s4,g4,c4,k4⟩:=wt_by c3 (o:=1) (by simp) (b4:Int)
 simp at c4
 simp only [Tryz.f96]
 simp [-evO_s,ln,evC_loop,lp,evC_draw,conv_ii Tryz.underlying137 Tryz.underlying148,bin_rem,bin_quo,bin_mul,hu,hp,hq,hpq,hpq2,hpm,hpm2]
 rw [drawC_nil (by kernel_rfl)]
 simp [evC_draw,store_p inf5 sz5,hpmi,show wr .i64 2=2 from rfl,show wr .i64 3=3 from rfl,i1,i2,x2,x3,g1,g2]
 rw [drawC_nil (by kernel_rfl)]
 simp [store_p inf5 sz5,hpqi,show wr .i64 0=0 from rfl,show wr .i64 1=1 from rfl,i3,i4,x0,x1,g3,g4,resOf_eq,pmapO]
 exact ⟨s4,_,[b4,b3,b2,b1],rfl,c4,rfl,rfl,by simp; omega,(((k1).trans k2).trans k3).trans k4⟩
theorem fmt5 (n:Nat) (h1:10000≤n) (h2:n < 100000) {r g:Nat} {al:List Nat} {cap:Option Nat} (hc:st.ce r=some (z24,g,al)) {N:Nat} (hN:10≤N) :
  FmtRes ((TB N).call 96 [.sl r 1 5 1 cap,.i .u64 (n:Int)] st) st r g 5:=by
 obtain ⟨N,rfl⟩:∃ N',N=N'+1:=⟨N - 1,by omega⟩
 rw [tb_out (by decide) Tryz.func96 rfl (Nat.le_of_ble_eq_true rfl)]; unfold bodyB
 have ln:=fun st:St=>len_sl (P:=Tryz.prog) (st:=st) (v:=.sl r 1 5 1 cap) Tryz.underlying140 (n:=5) rfl rfl
 have lp:∀ (b:Tr AV→St→Out) (t:Tr AV) (s:St),loopC b N t s=thenC (b t s) (loopC b (N - 1)):=fun b t s=>by
  obtain ⟨M,rfl⟩:∃ M,N=M+1:=⟨N - 1,by omega⟩
  rfl
 obtain ⟨u,hu,u0,u1⟩:∃ u:Int,wr .u32 (n:Int)=u∧10000≤u∧u < 100000:=⟨_,rfl,by rw [wr_u32 (by omega) (by omega)]; omega,by rw [wr_u32 (by omega) (by omega)]; omega⟩
 obtain ⟨p,hp,p0,p1⟩:∃ v:Int,u.tmod 10000=v∧0≤v∧v < 10000:=⟨_,rfl,by rw [Int.tmod_eq_emod_of_nonneg (by omega)]; omega,by rw [Int.tmod_eq_emod_of_nonneg (by omega)]; omega⟩
 obtain ⟨q,hq,q0,q1⟩:∃ v:Int,wr .u32 (u.tdiv 10000)=v∧0≤v∧v < 10:=⟨_,rfl,by rw [Int.tdiv_eq_ediv_of_nonneg (by omega),wr_u32 (by omega) (by omega)]; omega,by rw [Int.tdiv_eq_ediv_of_nonneg (by omega),wr_u32 (by omega) (by omega)]; omega⟩
 obtain ⟨pq,hpq,pq0,pq1⟩:∃ v:Int,wr .u32 (p.tdiv 100)=v∧0≤v∧v < 100:=⟨_,rfl,by rw [Int.tdiv_eq_ediv_of_nonneg (by omega),wr_u32 (by omega) (by omega)]; omega,by rw [Int.tdiv_eq_ediv_of_nonneg (by omega),wr_u32 (by omega) (by omega)]; omega⟩
 obtain ⟨pq2,hpq2,pq20,pq21⟩:∃ v:Int,wr .u32 (pq * 2)=v∧0≤v∧v < 199:=⟨_,rfl,by rw [wr_u32 (by omega) (by omega)]; omega,by rw [wr_u32 (by omega) (by omega)]; omega⟩
 obtain ⟨pm,hpm,pm0,pm1⟩:∃ v:Int,p.tmod 100=v∧0≤v∧v < 100:=⟨_,rfl,by rw [Int.tmod_eq_emod_of_nonneg (by omega)]; omega,by rw [Int.tmod_eq_emod_of_nonneg (by omega)]; omega⟩
 obtain ⟨pm2,hpm2,pm20,pm21⟩:∃ v:Int,wr .u32 (pm * 2)=v∧0≤v∧v < 199:=⟨_,rfl,by rw [wr_u32 (by omega) (by omega)]; omega,by rw [wr_u32 (by omega) (by omega)]; omega⟩
 obtain ⟨pqi,hpqi,pqi0,pqi1⟩:∃ v:Int,wr .u32 (pq2+1)=v∧0≤v∧v < 200:=⟨_,rfl,by rw [wr_u32 (by omega) (by omega)]; omega,by rw [wr_u32 (by omega) (by omega)]; omega⟩
 obtain ⟨pmi,hpmi,pmi0,pmi1⟩:∃ v:Int,wr .u32 (pm2+1)=v∧0≤v∧v < 200:=⟨_,rfl,by rw [wr_u32 (by omega) (by omega)]; omega,by rw [wr_u32 (by omega) (by omega)]; omega⟩
 obtain ⟨y,hy,y0,y1⟩:∃ v:Int,wr .u32 (48+q)=v∧48≤v∧v < 58:=⟨_,rfl,by rw [wr_u32 (by omega) (by omega)]; omega,by rw [wr_u32 (by omega) (by omega)]; omega⟩
 obtain ⟨y8,hy8,y80,y81⟩:∃ v:Int,wr .u8 y=v∧48≤v∧v < 58:=⟨_,rfl,by rw [wr_u8 (by omega) (by omega)]; omega,by rw [wr_u8 (by omega) (by omega)]; omega⟩
 obtain ⟨b1,lb1,i1⟩:=smL_at pmi (by omega) (by omega)
 obtain ⟨b2,lb2,i2⟩:=smL_at pm2 (by omega) (by omega)
 obtain ⟨b3,lb3,i3⟩:=smL_at pqi (by omega) (by omega)
 obtain ⟨b4,lb4,i4⟩:=smL_at pq2 (by omega) (by omega)
 obtain ⟨b5,rfl⟩:∃ b:Nat,y8=(b:Int):=⟨y8.toNat,by omega⟩
 have lb5:b5 < 256:=by omega
 unfold smL at i1 i2 i3 i4
 have x0:=index_sl (P:=Tryz.prog) Tryz.underlying140 inf5 sz5 r 1 5 0 cap (by decide)
 have x1:=index_sl (P:=Tryz.prog) Tryz.underlying140 inf5 sz5 r 1 5 1 cap (by decide)
 have x2:=index_sl (P:=Tryz.prog) Tryz.underlying140 inf5 sz5 r 1 5 2 cap (by decide)
 have x3:=index_sl (P:=Tryz.prog) Tryz.underlying140 inf5 sz5 r 1 5 3 cap (by decide)
 have x4:=index_sl (P:=Tryz.prog) Tryz.underlying140 inf5 sz5 r 1 5 4 cap (by decide)
 simp at x0 x1 x2 x3 x4
 obtain ⟨s1,g1,c1,k1⟩:=wt_by hc (o:=5) (by simp [z24]) (b1:Int)
 simp [z24] at c1
 obtain ⟨s2,g2,c2,k2⟩:=wt_by c1 (o:=4) (by simp) (b2:Int)
 simp at c2
 obtain ⟨s3,g3,c3,k3⟩:=wt_by c2 (o:=3) (by simp) (b3:Int)
 simp at c3
 obtain ⟨s4,g4,c4,k4⟩:=wt_by c3 (o:=2) (by simp) (b4:Int)
 simp at c4
 obtain ⟨s5,g5,c5,k5⟩:=wt_by c4 (o:=1) (by simp) (b5:Int)
 simp at c5
 simp only [Tryz.f96]
 simp [-evO_s,ln,evC_loop,lp,evC_draw,conv_ii Tryz.underlying137 Tryz.underlying148,bin_rem,bin_quo,bin_mul,hu,hp,hq,hpq,hpq2,hpm,hpm2]
 rw [drawC_nil (by kernel_rfl)]
 simp [evC_draw,store_p inf5 sz5,hpmi,show wr .i64 3=3 from rfl,show wr .i64 4=4 from rfl,i1,i2,x3,x4,g1,g2]
 rw [drawC_nil (by kernel_rfl)]
 simp [conv_ii Tryz.underlying148 Tryz.underlying5,store_p inf5 sz5,hpqi,hy,hy8,show wr .i64 1=1 from rfl,show wr .i64 2=2 from rfl,i3,i4,x0,x1,x2,g3,g4,g5,resOf_eq,pmapO]
 exact ⟨s5,_,[b5,b4,b3,b2,b1],rfl,c5,rfl,rfl,by simp; omega,((((k1).trans k2).trans k3).trans k4).trans k5⟩
theorem fmt6 (n:Nat) (h1:100000≤n) (h2:n < 1000000) {r g:Nat} {al:List Nat} {cap:Option Nat} (hc:st.ce r=some (z24,g,al)) {N:Nat} (hN:10≤N) :
  FmtRes ((TB N).call 96 [.sl r 1 6 1 cap,.i .u64 (n:Int)] st) st r g 6:=by
 obtain ⟨N,rfl⟩:∃ N',N=N'+1:=⟨N - 1,by omega⟩
 rw [tb_out (by decide) Tryz.func96 rfl (Nat.le_of_ble_eq_true rfl)]; unfold bodyB
 have ln:=fun st:St=>len_sl (P:=Tryz.prog) (st:=st) (v:=.sl r 1 6 1 cap) Tryz.underlying140 (n:=6) rfl rfl
 have lp:∀ (b:Tr AV→St→Out) (t:Tr AV) (s:St),loopC b N t s=thenC (b t s) (loopC b (N - 1)):=fun b t s=>by
  obtain ⟨M,rfl⟩:∃ M,N=M+1:=⟨N - 1,by omega⟩
  rfl
 obtain ⟨u,hu,u0,u1⟩:∃ u:Int,wr .u32 (n:Int)=u∧100000≤u∧u < 1000000:=⟨_,rfl,by rw [wr_u32 (by omega) (by omega)]; omega,by rw [wr_u32 (by omega) (by omega)]; omega⟩
 obtain ⟨p,hp,p0,p1⟩:∃ v:Int,u.tmod 10000=v∧0≤v∧v < 10000:=⟨_,rfl,by rw [Int.tmod_eq_emod_of_nonneg (by omega)]; omega,by rw [Int.tmod_eq_emod_of_nonneg (by omega)]; omega⟩
 obtain ⟨q,hq,q0,q1⟩:∃ v:Int,wr .u32 (u.tdiv 10000)=v∧0≤v∧v < 100:=⟨_,rfl,by rw [Int.tdiv_eq_ediv_of_nonneg (by omega),wr_u32 (by omega) (by omega)]; omega,by rw [Int.tdiv_eq_ediv_of_nonneg (by omega),wr_u32 (by omega) (by omega)]; omega⟩
 obtain ⟨pq,hpq,pq0,pq1⟩:∃ v:Int,wr .u32 (p.tdiv 100)=v∧0≤v∧v < 100:=⟨_,rfl,by rw [Int.tdiv_eq_ediv_of_nonneg (by omega),wr_u32 (by omega) (by omega)]; omega,by rw [Int.tdiv_eq_ediv_of_nonneg (by omega),wr_u32 (by omega) (by omega)]; omega⟩
 obtain ⟨pq2,hpq2,pq20,pq21⟩:∃ v:Int,wr .u32 (pq * 2)=v∧0≤v∧v < 199:=⟨_,rfl,by rw [wr_u32 (by omega) (by omega)]; omega,by rw [wr_u32 (by omega) (by omega)]; omega⟩
 obtain ⟨pm,hpm,pm0,pm1⟩:∃ v:Int,p.tmod 100=v∧0≤v∧v < 100:=⟨_,rfl,by rw [Int.tmod_eq_emod_of_nonneg (by omega)]; omega,by rw [Int.tmod_eq_emod_of_nonneg (by omega)]; omega⟩
 obtain ⟨pm2,hpm2,pm20,pm21⟩:∃ v:Int,wr .u32 (pm * 2)=v∧0≤v∧v < 199:=⟨_,rfl,by rw [wr_u32 (by omega) (by omega)]; omega,by rw [wr_u32 (by omega) (by omega)]; omega⟩
 obtain ⟨pqi,hpqi,pqi0,pqi1⟩:∃ v:Int,wr .u32 (pq2+1)=v∧0≤v∧v < 200:=⟨_,rfl,by rw [wr_u32 (by omega) (by omega)]; omega,by rw [wr_u32 (by omega) (by omega)]; omega⟩
 obtain ⟨pmi,hpmi,pmi0,pmi1⟩:∃ v:Int,wr .u32 (pm2+1)=v∧0≤v∧v < 200:=⟨_,rfl,by rw [wr_u32 (by omega) (by omega)]; omega,by rw [wr_u32 (by omega) (by omega)]; omega⟩
 obtain ⟨m,hm,m0,m1⟩:∃ v:Int,q.tmod 100=v∧0≤v∧v < 100:=⟨_,rfl,by rw [Int.tmod_eq_emod_of_nonneg (by omega)]; omega,by rw [Int.tmod_eq_emod_of_nonneg (by omega)]; omega⟩
 obtain ⟨m2,hm2,m20,m21⟩:∃ v:Int,wr .u32 (m * 2)=v∧0≤v∧v < 199:=⟨_,rfl,by rw [wr_u32 (by omega) (by omega)]; omega,by rw [wr_u32 (by omega) (by omega)]; omega⟩
 obtain ⟨w,hw,w0,w1⟩:∃ v:Int,wr .u32 (q.tdiv 100)=v∧0≤v∧v < 1:=⟨_,rfl,by rw [Int.tdiv_eq_ediv_of_nonneg (by omega),wr_u32 (by omega) (by omega)]; omega,by rw [Int.tdiv_eq_ediv_of_nonneg (by omega),wr_u32 (by omega) (by omega)]; omega⟩
 obtain ⟨mi,hmi,mi0,mi1⟩:∃ v:Int,wr .u32 (m2+1)=v∧0≤v∧v < 200:=⟨_,rfl,by rw [wr_u32 (by omega) (by omega)]; omega,by rw [wr_u32 (by omega) (by omega)]; omega⟩
 obtain ⟨b1,lb1,i1⟩:=smL_at pmi (by omega) (by omega)
 obtain ⟨b2,lb2,i2⟩:=smL_at pm2 (by omega) (by omega)
 obtain ⟨b3,lb3,i3⟩:=smL_at pqi (by omega) (by omega)
 obtain ⟨b4,lb4,i4⟩:=smL_at pq2 (by omega) (by omega)
 obtain ⟨b5,lb5,i5⟩:=smL_at mi (by omega) (by omega)
 obtain ⟨b6,lb6,i6⟩:=smL_at m2 (by omega) (by omega)
 unfold smL at i1 i2 i3 i4 i5 i6
 have x0:=index_sl (P:=Tryz.prog) Tryz.underlying140 inf5 sz5 r 1 6 0 cap (by decide)
 have x1:=index_sl (P:=Tryz.prog) Tryz.underlying140 inf5 sz5 r 1 6 1 cap (by decide)
 have x2:=index_sl (P:=Tryz.prog) Tryz.underlying140 inf5 sz5 r 1 6 2 cap (by decide)
 have x3:=index_sl (P:=Tryz.prog) Tryz.underlying140 inf5 sz5 r 1 6 3 cap (by decide)
 have x4:=index_sl (P:=Tryz.prog) Tryz.underlying140 inf5 sz5 r 1 6 4 cap (by decide)
 have x5:=index_sl (P:=Tryz.prog) Tryz.underlying140 inf5 sz5 r 1 6 5 cap (by decide)
 simp at x0 x1 x2 x3 x4 x5
 obtain ⟨s1,g1,c1,k1⟩:=wt_by hc (o:=6) (by simp [z24]) (b1:Int)
 simp [z24] at c1
 obtain ⟨s2,g2,c2,k2⟩:=wt_by c1 (o:=5) (by simp) (b2:Int)
 simp at c2
 obtain ⟨s3,g3,c3,k3⟩:=wt_by c2 (o:=4) (by simp) (b3:Int)
 simp at c3
 obtain ⟨s4,g4,c4,k4⟩:=wt_by c3 (o:=3) (by simp) (b4:Int)
 simp at c4
 obtain ⟨s5,g5,c5,k5⟩:=wt_by c4 (o:=2) (by simp) (b5:Int)
 simp at c5
 obtain ⟨s6,g6,c6,k6⟩:=wt_by c5 (o:=1) (by simp) (b6:Int)
 simp at c6
 simp only [Tryz.f96]
 simp [-evO_s,ln,evC_loop,lp,evC_draw,conv_ii Tryz.underlying137 Tryz.underlying148,bin_rem,bin_quo,bin_mul,hu,hp,hq,hpq,hpq2,hpm,hpm2]
 rw [drawC_nil (by kernel_rfl)]
 simp [evC_draw,store_p inf5 sz5,hpmi,show wr .i64 4=4 from rfl,show wr .i64 5=5 from rfl,i1,i2,x4,x5,g1,g2]
 rw [drawC_nil (by kernel_rfl)]
 simp [evC_draw,bin_rem,bin_quo,bin_mul,store_p inf5 sz5,hpqi,hm,hm2,hw,show wr .i64 2=2 from rfl,show wr .i64 3=3 from rfl,i3,i4,x2,x3,g3,g4]
 rw [drawC_nil (by kernel_rfl)]
 simp [store_p inf5 sz5,hmi,show wr .i64 0=0 from rfl,show wr .i64 1=1 from rfl,i5,i6,x0,x1,g5,g6,resOf_eq,pmapO]
 exact ⟨s6,_,[b6,b5,b4,b3,b2,b1],rfl,c6,rfl,rfl,by simp; omega,(((((k1).trans k2).trans k3).trans k4).trans k5).trans k6⟩
theorem wf136:zeroC Tryz.prog 136=some z24:=by kernel_rfl
theorem sp136:selfPtr Tryz.prog 136=false:=by kernel_rfl
theorem arr136:arrOf Tryz.prog 136=some (24,1):=by kernel_rfl
theorem slice_arr {P:Program} {ty n r a b:Nat} (h:arrOf P ty=some (n,1)) (hab:a≤b) (hb:b≤n):sliceR P st ty (.p r 0) (some (.i .i64 (a:Int))) (some (.i .i64 (b:Int))) none=some (.sl r a (b - a) 1 (some (n - a))):=by
 have h1:bnds n n (some (.i .i64 (a:Int))) (some (.i .i64 (b:Int))) none=some (a,b,n):=by
  unfold bnds
  show @Bool.rec (fun _=>Option (Nat × Nat × Nat)) none (some (a,b,n)) (Nat.ble a b && Nat.ble b n && Nat.ble n n && true)=_
  rw [Nat.ble_eq_true_of_le hab,Nat.ble_eq_true_of_le hb,Nat.ble_eq_true_of_le (Nat.le_refl n)]
  rfl
 unfold sliceR slice
 simp only [h,h1]
 simp
theorem pmap_bytes:∀ {l:List Nat},(∀ b,b ∈ l→b < 256)→pmapO Go.Ev.byteOf (l.map fun b:Nat=>AV.i .u8 (b:Int))=some l
 | [],_=>rfl
 | b :: l,h=>by
  have ih:=pmap_bytes (l:=l) fun x hx=>h x (List.mem_cons_of_mem _ hx)
  have h1:Nat.blt b 256=true:=by rw [Nat.blt_eq]; exact h b (List.mem_cons_self ..)
  have h2:Go.Ev.byteOf (.i .u8 (b:Int))=some b:=by
   show @Bool.rec (fun _=>Option Nat) none (some b) (Nat.blt b 256)=_
   rw [h1]
  simp only [List.map_cons,pmapO,h2,ih]
theorem bytes_str {r g d:Nat} {al:List Nat} {L:List AV} {cap:Option Nat} {bs:List Nat} (hc:st.ce r=some (L,g,al)) (h0:0 < d) (h1:cut L 1 d=some (bs.map fun b:Nat=>AV.i .u8 (b:Int))) (h2:∀ b,b ∈ bs→b < 256) :
  conv Tryz.prog st 140 9 (.sl r 1 d 1 cap)=some (.s bs,st):=by
 unfold conv
 simp only [Tryz.underlying140,Tryz.underlying9,Tryz.underlying5]
 show strOf st (firstCells st 1 d (.sl r 1 d 1 cap))=_
 have:firstCells st 1 d (.sl r 1 d 1 cap)=some (bs.map fun b:Nat=>AV.i .u8 (b:Int)):=by
  show (@Bool.rec (fun _=>Option (List AV)) (rd st r 1 (d * 1)) (some []) (Nat.beq d 0))=_
  rw [nbeq,decide_eq_false (by omega)]
  show rd st r 1 (d * 1)=_
  rw [rd_of hc,Nat.mul_one,h1]
 rw [this]
 show (match pmapO Go.Ev.byteOf _ with | some bs=>some (AV.s bs,st) | none=>none)=_
 rw [pmap_bytes h2]
theorem digits_of {n:Nat} (h1:100≤n) (h2:n < 1000000):(Lib.nDigits n=3∧n < 1000)∨(Lib.nDigits n=4∧1000≤n∧n < 10000)∨(Lib.nDigits n=5∧10000≤n∧n < 100000)∨(Lib.nDigits n=6∧100000≤n):=by
 have s:∀ u:Nat,Lib.nDigits u=if u < 10 then 1 else Lib.nDigits (u / 10)+1:=fun u=>by
  rw [Lib.nDigits]
  split <;> rfl
 rw [s,if_neg (by omega),s,if_neg (by omega),s]
 by_cases a:n / 10 / 10 < 10
 ·left; rw [if_pos a]; exact ⟨rfl,by omega⟩
 rw [if_neg a,s]
 by_cases b:n / 10 / 10 / 10 < 10
 ·right; left; rw [if_pos b]; exact ⟨rfl,by omega,by omega⟩
 rw [if_neg b,s]
 by_cases e:n / 10 / 10 / 10 / 10 < 10
 ·right; right; left; rw [if_pos e]; exact ⟨rfl,by omega,by omega⟩
 rw [if_neg e,s,if_pos (by omega)]
 right; right; right; exact ⟨rfl,by omega⟩
theorem fmt_any (n:Nat) (h1:100≤n) (h2:n < 1000000) {r g:Nat} {al:List Nat} {cap:Option Nat} (hc:st.ce r=some (z24,g,al)) {N:Nat} (hN:10≤N) :
  FmtRes ((TB N).call 96 [.sl r 1 (Lib.nDigits n) 1 cap,.i .u64 (n:Int)] st) st r g (Lib.nDigits n)∧3≤Lib.nDigits n∧Lib.nDigits n≤6:=by
 rcases digits_of h1 h2 with ⟨e,h⟩ | ⟨e,h3,h4⟩ | ⟨e,h3,h4⟩ | ⟨e,h3⟩ <;> rw [e]
 ·exact ⟨fmt3 n h1 h hc hN,by decide,by decide⟩
 ·exact ⟨fmt4 n h3 h4 hc hN,by decide,by decide⟩
 ·exact ⟨fmt5 n h3 h4 hc hN,by decide,by decide⟩
 ·exact ⟨fmt6 n h3 h2 hc hN,by decide,by decide⟩
theorem regC_alloc {x:Ctx} {t:Tr AV} {st:St} {d:Option Tmp} {e ty:TypeId} {pos:String} {af:Array Edge} (hs:selfPtr x.P e=false) :
  regC x #[⟨d,.alloc e,ty,pos,af,none⟩] t st=evOps x.P x.S x.nt #[⟨d,.alloc e,ty,pos,af,none⟩] [⟨d,.alloc e,ty,pos,af,none⟩] t st:=regC_var rfl rfl hs
theorem slice_s {P:Program} {ty:TypeId} {kd kd':IntKind} (h:isStr P ty=true) {l:Str} {a b:Nat} (hab:a≤b) (hb:b≤l.length):sliceR P st ty (.s l) (some (.i kd (a:Int))) (some (.i kd' (b:Int))) none=some (.s ((l.drop a).take (b - a))):=by
 have h1:bnds l.length l.length (some (.i kd (a:Int))) (some (.i kd' (b:Int))) none=some (a,b,l.length):=by
  unfold bnds
  show @Bool.rec (fun _=>Option (Nat × Nat × Nat)) none (some (a,b,l.length)) (Nat.ble a b && Nat.ble b l.length && Nat.ble l.length l.length && true)=_
  rw [Nat.ble_eq_true_of_le hab,Nat.ble_eq_true_of_le hb,Nat.ble_eq_true_of_le (Nat.le_refl _)]
  rfl
 unfold sliceR slice
 simp only [h1,h]
theorem small_call (n:Nat) (h:n < 100) {N:Nat} (hN:1≤N):∃ bs,(TB N).call 94 [.i .i64 (n:Int)] st=some (.s bs,st):=by
 obtain ⟨N,rfl⟩:∃ N',N=N'+1:=⟨N - 1,by omega⟩
 rw [tb_out (by decide) Tryz.func94 rfl (Nat.le_of_ble_eq_true rfl)]; unfold bodyB
 by_cases h1:n < 10
 ·have e1:(n:Int) < 10:=by omega
  have w1:wr .i64 ((n:Int)+1)=(n:Int)+1:=wr_in (by omega) (by omega)
  have sl:=fun (l:Str) (hl:l.length=36)=>slice_s (st:=st) (P:=Tryz.prog) (ty:=9) (kd:=.i64) (kd':=.i64) (by kernel_rfl) (l:=l) (a:=n) (b:=n+1) (by omega) (by omega)
  simp only [Int.natCast_add,Int.natCast_one] at sl
  simp only [Tryz.f94]
  simp [e1,w1,-List.drop_one,sl,resOf_eq,pmapO]
 ·have e1:¬ (n:Int) < 10:=by omega
  have w1:wr .i64 ((n:Int) * 2)=(n:Int) * 2:=wr_in (by omega) (by omega)
  have w2:wr .i64 ((n:Int) * 2+2)=(n:Int) * 2+2:=wr_in (by omega) (by omega)
  have sl:=fun (l:Str) (hl:l.length=200)=>slice_s (st:=st) (P:=Tryz.prog) (ty:=9) (kd:=.i64) (kd':=.i64) (by kernel_rfl) (l:=l) (a:=n * 2) (b:=n * 2+2) (by omega) (by omega)
  simp only [Int.natCast_add,Int.natCast_mul,Int.cast_ofNat_Int] at sl
  simp only [Tryz.f94]
  simp [e1,w1,w2,bin_mul,sl,resOf_eq,pmapO]
def TxtRes (o:Option (AV × St)) (st:St):Prop:=∃ s' bs,o=some (.s bs,s')∧Kp [] [] st s'
theorem formatInt_call (n:Nat) (h2:n < 1000000) (hT:Tabled st) (h0:0 < st.next) {N:Nat} (hN:20≤N):TxtRes ((TB N).call 90 [.i .i64 (n:Int),.i .i64 10] st) st:=by
 obtain ⟨N,rfl⟩:∃ N',N=N'+1:=⟨N - 1,by omega⟩
 rw [tb_out (by decide) Tryz.func90 rfl (Nat.le_of_ble_eq_true rfl)]; unfold bodyB
 have nn:(0:Int)≤(n:Int):=by omega
 have nn':¬ (n:Int) < 0:=by omega
 by_cases h1:n < 100
 ·have e1:(n:Int) < 100:=by omega
  obtain ⟨bs,h⟩:=small_call (st:=st) n h1 (N:=N) (by omega)
  refine ⟨st,bs,?_,.refl _ _ _⟩
  simp only [Tryz.f90]
  simp [nn,e1,callF_of Tryz.func94 rfl,h,resOf_eq,pmapO]
 ·have e1:¬ (n:Int) < 100:=by omega
  have w1:wr .u64 (n:Int)=(n:Int):=wr_u64 (by omega) (by omega)
  have c1:=newCe_ce (st:=st) z24
  have k1:Kp [] [] st (st.newCe z24):=.newCe _ _ _
  have T1:Tabled (st.newCe z24):=by
   obtain ⟨t,ht⟩:=hT
   exact ⟨t,by rw [k1.get _ h0 (by simp)]; exact ht⟩
  have dg:=dig_call (n:=N - 1) T1 (m:=n) (by omega) (by omega)
  rw [show N - 1+1=N by omega] at dg
  obtain ⟨⟨s2,L2,bs,f1,f2,f3,f4,f5,f6⟩,d1,d2⟩:=fmt_any (st:=st.newCe z24) n (by omega) h2 (cap:=some 23) c1 (N:=N) (by omega)
  have a1:wr .i64 (1+(Lib.nDigits n:Int))=((1+Lib.nDigits n:Nat):Int):=by rw [wr_in (by omega) (by omega)]; omega
  have sl:=fun st:St=>slice_arr (st:=st) (P:=Tryz.prog) (r:=s2.next) arr136 (a:=1) (b:=1+Lib.nDigits n) (by omega) (by omega)
  have sl1:=fun s:St=>slice_arr (st:=s) (P:=Tryz.prog) (r:=st.next) arr136 (a:=1) (b:=1+Lib.nDigits n) (by omega) (by omega)
  rw [show 1+Lib.nDigits n - 1=Lib.nDigits n by omega] at sl1
  simp at sl1 a1
  have bs1:=bytes_str (cap:=some 23) f2 (by omega) f4 f5
  refine ⟨s2,bs,?_,kp_new k1 f6 (fun x hx=>by simp at hx; omega) (fun x hx=>by simp at hx; omega)⟩
  simp only [Tryz.f90]
  simp [nn,nn',e1,evC_regionC,regC_alloc,sp136,opH_alloc,wf136,conv_ii Tryz.underlying2 Tryz.underlying137,w1,callF_of Tryz.func95 rfl,dg,callF_of Tryz.func96 rfl,a1,sl1,f1,bs1,resOf_eq,pmapO]
theorem itoa70_call (n:Nat) (h2:n < 1000000) (hT:Tabled st) (h0:0 < st.next) {N:Nat} (hN:21≤N):TxtRes ((TB N).call 70 [.i .i64 (n:Int)] st) st:=by
 obtain ⟨N,rfl⟩:∃ N',N=N'+1:=⟨N - 1,by omega⟩
 rw [tb_out (by decide) Tryz.func70 rfl (Nat.le_of_ble_eq_true rfl)]; unfold bodyB
 obtain ⟨s,bs,h,k⟩:=formatInt_call n h2 hT h0 (N:=N) (by omega)
 refine ⟨s,bs,?_,k⟩
 simp [Tryz.f70,callF_of Tryz.func90 rfl,h,resOf_eq,pmapO]
theorem itoa59_call (n:Nat) (h2:n < 1000000) (hT:Tabled st) (h0:0 < st.next):TxtRes (evBody Tryz.prog (TB 30) 30 59 [.i .i64 (n:Int)] st) st:=by
 rw [body_at Tryz.func59 rfl (Nat.le_of_ble_eq_true rfl)]
 obtain ⟨s,bs,h,k⟩:=itoa70_call n h2 hT h0 (N:=30) (by omega)
 refine ⟨s,bs,?_,k⟩
 simp [Tryz.f59,callF_of Tryz.func70 rfl,h,resOf_eq,pmapO]
theorem calls_one {P:Program} {f:FuncId} {args:Array Value} {w w':World} {v u:Value} {Q:World→Prop} (hi:P.inits.idxOf? f=none) (h:CallsTo P f args w w' v) (k:Calls P f args w fun e w'=>e = .returned u∧Q w'):v=u:=by
 obtain ⟨fr1,⟨n1,a1⟩,a2,a3⟩:=h []
 obtain ⟨e,w2,fr2,⟨rfl,-⟩,⟨n2,b1⟩,b2,b3⟩:=k []
 have s1:=step_leave_done a3 (by rw [a2]; exact hi)
 have s2:=step_leave_done b3 (by rw [b2]; exact hi)
 rcases Nat.lt_trichotomy n1 n2 with hn | hn | hn
 ·obtain ⟨d,rfl⟩:∃ d,n2=n1+(d+1):=⟨n2 - n1 - 1,by omega⟩
  rw [runN_add,a1] at b1
  simp only [runN,s1] at b1
  cases b1
 ·subst hn
  rw [a1] at b1
  have e:=Stepped.next.inj b1
  rw [e,s2] at s1
  cases s1; rfl
 ·obtain ⟨d,rfl⟩:∃ d,n1=n2+(d+1):=⟨n1 - n2 - 1,by omega⟩
  rw [runN_add,b1] at a1
  simp only [runN,s2] at a1
  cases a1
def itoaL (n:Nat):Str:=(Lib.itoa (n:Int)).map UInt8.toNat
open Classical in
def itoaF (f:FuncId) (xs:List AV) (st:St):Option (AV × St) :=
 if f=59∧Tabled st then match xs with
  | [.i .i64 (.ofNat n)]=>if n < 1000000 then some (.s (itoaL n),st) else none
  | _=>none
 else none
theorem itoaF_in {n:Nat} {st:St} (h:Tabled st) (h2:n < 1000000):itoaF 59 [.i .i64 (n:Int)] st=some (.s (itoaL n),st):=by
 unfold itoaF
 rw [if_pos ⟨rfl,h⟩]
 show (if n < 1000000 then some (AV.s (itoaL n),st) else none)=_
 rw [if_pos h2]
theorem itoaF_out {f:FuncId} {xs:List AV} {st:St} (h:f≠59):itoaF f xs st=none:=by
 unfold itoaF
 rw [if_neg (fun hh=>h hh.1)]
theorem itoaF_ok:FOK Tryz.prog itoaF:=by
 refine ⟨fun f xs st=>?_,fun {E w st st' f xs us v} hr hc h hn=>?_⟩
 ·unfold itoaF
  split
  ·split
   ·split
    ·exact up_same
    ·exact up_none
   ·exact up_none
  ·exact up_none
 ·unfold itoaF at h
  split at h
  case isFalse=>cases h
  rename_i hg
  obtain ⟨rfl,t,ht⟩:=hg
  split at h
  case h_2=>cases h
  rename_i n
  split at h
  case isFalse=>cases h
  rename_i hb
  cases h
  obtain ⟨ty,fz,hi⟩:=hr.tys _ _ _ _ ht
  have hw:=hr.imm _ _ hi
  obtain ⟨s0,hs0⟩:∃ s,st0.new (.ty 0 1 false)=s:=⟨_,rfl⟩
  have T0:Tabled s0:=⟨0,by rw [← hs0,St.get_new,if_pos (show 0=st0.next from rfl)]⟩
  have n0:0 < s0.next:=by rw [← hs0]; exact Nat.succ_pos _
  obtain ⟨s1,bs,hrun,hk⟩:=itoa59_call n hb T0 n0
  have hR:Rel (inEnv w.heap s1.next) w.heap s0:=by
   have:=(Step.newTy (inEnv_rel w.heap s1.next) (t:=0) (r0:=1) (x:=false) ⟨ty,fz,hw⟩).rel
   rwa [hs0] at this
  have hal:∀ r row,s0.alive r=some row→False:=fun r row h=>by
   unfold St.alive at h
   rw [← hs0,St.get_new] at h
   by_cases e:r=st0.next
   ·rw [if_pos e] at h; cases h
   ·rw [if_neg e,st0_get] at h; cases h
  obtain ⟨E',w',cv,k1,k2,k3⟩:=body_spec (tb_ok 30) (w:=w) (us:=[.int .i64 (n:Int)]) hR (.cons _ _ _ _ (.i _ _) .nil) hrun (Nat.le_refl _)
  have hcv:=calls_one (Q:=fun w'=>∃ k os,w'=Sort.grow (w.drewN k) os) (by kernel_rfl) k1 (itoa_calls n w (by omega) ⟨ty,fz,hw⟩)
  subst hcv
  cases hc with
  | cons _ _ u us h1 h2 =>
  cases h2
  cases h1
  refine ⟨E,w',_,k1,⟨Step.grow hr k2.fr.size (fun i hi=>k2.fr.keep i hi ?_),k2.os,k2.out⟩,?_⟩
  ·rintro ⟨r,row,B,ha,_,_⟩
   exact hal _ _ ha
  ·have:itoaL n=(⟨(Lib.itoa (n:Int)).toArray⟩:ByteArray).data.toList.map UInt8.toNat:=rfl
   rw [this]
   exact .s _
end
end Go.Proofs.YtbemeikjepjhoaaGreatDoor
