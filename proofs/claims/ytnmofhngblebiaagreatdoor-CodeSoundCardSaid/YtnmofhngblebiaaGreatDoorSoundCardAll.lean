/- CodeSound holds for every program given (its card): what code.Make makes passes code.Check, its globals are the binds, and each operation is among the Uses of just one body. No further conditions. -/
import Derived.Test.YtnmofhngblebiaaGreatDoorS16
import Derived.Test.YtnmofhngblebiaaGreatDoorCards
import Derived.Test.YtnmofhngblebiaaGreatDoorTie
import Derived.ProofKit
import Derived.OpenShut
import Derived.LaidMore
import Derived.Lay
set_option maxRecDepth 100000
open List renaming mem_cons_self->Q0,mem_cons_of_mem->Q1
open Go.MakeChecks renaming laidMetH_plain->Q2
open Option.some renaming inj->Q3,injEq->Q4
open Go.Proofs.Tryz
open Go.Proofs.Tryz renaming prog->π
noncomputable section
open Go.Ev
namespace Go.Proofs.YtnmofhngblebiaaGreatDoor
variable {k m z:Nat}{l:List AV}
section
open Go.ChangeShapes Go.WideShapes Go.ChangeAt Go.RowKit Go.Ev
theorem xz(h:Typed π k 9 l):∃s,l=[.s s]:=by
 cases k with
 |zero=>cases h
 |succ k=>simp only[Typed,underlying9]at h;obtain⟨n,h,-⟩:=h;exact⟨n,h⟩
theorem DV(h:Typed π k 3 l):∃n,l=[.i .i64 n]/\-9223372036854775808<=n/\n<=9223372036854775807:=by
 cases k with
 |zero=>cases h
 |succ k=>simp only[Typed,underlying3]at h;have⟨n,h,h1,h2⟩:=h;exact⟨n,h,h1,h2⟩
theorem Oq(h:Typed π k 2 l):∃n,l=[.i .i64 n]:=by
 cases k with
 |zero=>cases h
 |succ k=>simp only[Typed,underlying2]at h;obtain⟨n,h,-⟩:=h;exact⟨n,h⟩
theorem NC:∀{els:List (List AV)},(∀x∈els,∃s:ae,x=[.s s])->∃ss:List ae,els.flatten=ss.map .s/\els.length=ss.length
 |[],_=>⟨[],rfl,rfl⟩
 |x::els,h=>by
  obtain⟨s,rfl⟩:=h x Q0;have⟨ss,h1,h2⟩:=NC λy hy=>h y (Q1 _ hy)
  exact⟨s::ss,by simp[h1],by simp[h2]⟩
theorem R6(h:Typed π k 43 l):∃v,l=[v]/\nh v:=by
 cases k with
 |zero=>cases h
 |succ k=>
  simp only[Typed,underlying43,rZ]at h;rcases h with h|h|⟨els,h,h1,h2⟩
  ·cases h
  ·exact⟨_,h,[],.inl ⟨rfl,rfl⟩,by simp⟩
  ·have⟨ss,g1,g2⟩:=NC λx hx=>xz (h2 x hx).2
   refine⟨_,h,ss,.inr ?_,?_⟩
   ·rw[g1,g2,List.length_map]
   ·rw[<-g2];exact Nat.le_trans h1 (by decide)
theorem PD{m z:Nat}:∀{els:List (List AV)},(∀x∈els,∃p y,x=p++Ex.cells y/\jw m p/\y.Ty)->∃l:aa,l.slice z=.rs els.flatten els.length z/\l.flat=els.flatten/\l.len=els.length/\l.Ty m
 |[],_=>⟨.nil false,by simp[aa.slice],by simp[aa.flat],by simp[aa.len],by simp[aa.Ty]⟩
 |x::els,h=>by
  obtain⟨p,y,rfl,h1,h2⟩:=h x (Q0 ..);obtain⟨l,-,k2,k3,k4⟩:=PD (m:=m) (z:=z) λx hx=>h x (Q1 _ hx)
  exact⟨.cons p y l,by simp[aa.slice,k2,k3],by simp[aa.flat,k2],by simp[aa.len,k3],by simp only[aa.Ty];exact⟨h1,h2,k4⟩⟩
theorem D7{e ty:Nat}(hu:π.underlying ty=some (.slice e))(hz:aq π e=z)(h0:z≠0)
  (ih:∀x,Typed π k e x->∃p y,x=p++Ex.cells y/\jw m p/\y.Ty) (h:Typed π (k+1) ty l):∃ls:aa,l=[ls.slice z]/\ls.Ty m:=by
 simp only[Typed,hu,hz]at h;rcases h with h|h|⟨els,h,-,h2⟩
 ·exact absurd h h0
 ·exact⟨.nil true,by simp[h,aa.slice],by simp[aa.Ty]⟩
 ·obtain⟨ls,k1,-,-,k4⟩:=PD (z:=z) λx hx=>ih x (h2 x hx).2
  exact⟨ls,by rw[h,k1],k4⟩
theorem Ww:∀(k:Nat) (l:List AV),Typed π k 47 l->∃x:Ex,x.Ty/\l=x.cells:=by
 intro k;induction k using Nat.strongRecOn with
 |ind k ih=>
  intro l h;cases k with
  |zero=>cases h
  |succ k=>
   simp only[Typed,underlying47]at h;obtain⟨parts,rfl,h1,h2⟩:=h (by kernel_rfl)
   match parts,h1,h2 with
   |[p0,p1,p2,p3,p4,p5,p6],h1,h2=>
    obtain⟨kd,rfl,b1,b2⟩:=DV (h2 0 _ p0 rfl rfl).2;obtain⟨nm,rfl⟩:=xz (h2 1 _ p1 rfl rfl).2;obtain⟨num,rfl⟩:=Oq (h2 2 _ p2 rfl rfl).2;obtain⟨ps,rfl,hps⟩:=R6 (h2 3 _ p3 rfl rfl).2;have t4:Typed π k 23 p4:=(h2 4 _ p4 rfl rfl).2;have t5:Typed π k 44 p5:=(h2 5 _ p5 rfl rfl).2;have t6:Typed π k 45 p6:=(h2 6 _ p6 rfl rfl).2;cases k with
    |zero=>cases t4
    |succ k=>
     have i47:∀x,Typed π k 47 x->∃p y,x=p++Ex.cells y/\jw 0 p/\y.Ty:=by intro x hx;obtain⟨y,w,rfl⟩:=ih k (by omega) x hx;exact⟨[],y,rfl,rfl,w⟩
     have i49:∀x,Typed π k 49 x->∃p y,x=p++Ex.cells y/\jw 1 p/\y.Ty:=by
      intro x hx;cases k with
      |zero=>cases hx
      |succ k=>
       simp only[Typed,underlying49]at hx;obtain⟨qs,rfl,g1,g2⟩:=hx (by kernel_rfl)
       match qs,g1,g2 with
       |[q0,q1],g1,g2=>obtain⟨s,rfl⟩:=xz (g2 0 _ q0 rfl rfl).2;obtain⟨y,w,rfl⟩:=ih k (by omega) q1 (g2 1 _ q1 rfl rfl).2;exact⟨[.s s],y,by simp,⟨s,rfl⟩,w⟩
     have i133:∀x,Typed π k 133 x->∃p y,x=p++Ex.cells y/\jw 4 p/\y.Ty:=by
      intro x hx;cases k with
      |zero=>cases hx
      |succ k=>
       simp only[Typed,underlying133]at hx;obtain⟨qs,rfl,g1,g2⟩:=hx (by kernel_rfl)
       match qs,g1,g2 with
       |[q0,q1,q2,q3,q4],g1,g2=>obtain⟨n,rfl,-⟩:=DV (g2 0 _ q0 rfl rfl).2;obtain⟨s,rfl⟩:=xz (g2 1 _ q1 rfl rfl).2;obtain⟨n2,rfl⟩:=Oq (g2 2 _ q2 rfl rfl).2;obtain⟨vs,rfl,hvs⟩:=R6 (g2 3 _ q3 rfl rfl).2;obtain⟨y,w,rfl⟩:=ih k (by omega) q4 (g2 4 _ q4 rfl rfl).2;exact⟨[.i .i64 n,.s s,.i .i64 n2,vs],y,by simp,⟨n,s,n2,vs,rfl,hvs⟩,w⟩
     obtain⟨b,rfl,c2⟩:=D7 underlying23 cK (by decide) i49 t4;obtain⟨a,rfl,c4⟩:=D7 underlying44 aX (by decide) i47 t5;obtain⟨al,rfl,c6⟩:=D7 underlying45 bL (by decide) i133 t6;exact⟨.mk kd nm num ps b a al,by simp only[Ex.Ty];exact⟨⟨b1,b2⟩,hps,c2,c4,c6⟩,by simp[Ex.cells]⟩
theorem VG(h:Typed π k 63 l):∃d:bG,l=d.cells:=by
 cases k with
 |zero=>cases h
 |succ k=>
  simp only[Typed,underlying63]at h;obtain⟨qs,rfl,g1,g2⟩:=h (by kernel_rfl)
  match qs,g1,g2 with
  |[q0,q1,q2,q3],g1,g2=>obtain⟨n,rfl⟩:=xz (g2 0 _ q0 rfl rfl).2;obtain⟨ar,rfl,-⟩:=DV (g2 1 _ q1 rfl rfl).2;obtain⟨ty,rfl⟩:=xz (g2 2 _ q2 rfl rfl).2;obtain⟨tag,rfl,-⟩:=DV (g2 3 _ q3 rfl rfl).2;exact⟨⟨n,ar,ty,tag⟩,rfl⟩
theorem MB:∀{els:List (List AV)},(∀x∈els,∃d:bG,x=d.cells)->∃ds:List bG,els=ds.map bG.cells
 |[],_=>⟨[],rfl⟩
 |x::els,h=>by
  obtain⟨d,rfl⟩:=h x Q0;obtain⟨ds,rfl⟩:=MB λy hy=>h y (Q1 _ hy)
  exact⟨d::ds,rfl⟩
theorem VJ(h:Typed π k 22 l):∃v ds,l=[v]/\fq v ds:=by
 cases k with
 |zero=>cases h
 |succ k=>
  simp only[Typed,underlying22,dB]at h;rcases h with h|h|⟨els,h,-,h2⟩
  ·cases h
  ·exact⟨_,[],h,.inl ⟨rfl,rfl⟩,λx hx=>by cases hx⟩
  ·obtain⟨ds,rfl⟩:=MB λx hx=>VG (h2 x hx).2
   exact⟨_,ds,h,.inr rfl,λx hx=>(h2 x hx).1⟩
theorem Ux(h:Typed π k 23 l):∃b:aa,l=[b.slice 8]/\b.Ty 1:=by
 cases k with
 |zero=>cases h
 |succ k=>
  refine D7 underlying23 cK (by decide) (λx hx=>?_) h;cases k with
  |zero=>cases hx
  |succ k=>
   simp only[Typed,underlying49]at hx;obtain⟨qs,rfl,g1,g2⟩:=hx (by kernel_rfl)
   match qs,g1,g2 with
   |[q0,q1],g1,g2=>obtain⟨s,rfl⟩:=xz (g2 0 _ q0 rfl rfl).2;obtain⟨y,w,rfl⟩:=Ww k q1 (g2 1 _ q1 rfl rfl).2;exact⟨[.s s],y,by simp,⟨s,rfl⟩,w⟩
theorem abk(h:Typed π k 25 l):∃cv ds,∃b:aa,l=[cv,b.slice 8]/\fq cv ds/\b.Ty 1:=by
 cases k with
 |zero=>cases h
 |succ k=>
  simp only[Typed,underlying25]at h;obtain⟨qs,rfl,g1,g2⟩:=h (by kernel_rfl)
  match qs,g1,g2 with
  |[q0,q1],g1,g2=>obtain⟨cv,ds,rfl,hv⟩:=VJ (g2 0 _ q0 rfl rfl).2;obtain⟨b,rfl,hb⟩:=Ux (g2 1 _ q1 rfl rfl).2;exact⟨cv,ds,b,rfl,hv,hb⟩
theorem Tryz.Le:π.globalNamed "internal/strconv.uint64pow10"=some 0:=by kernel_rfl
theorem Tryz.TY:(π.globals[0]?).map (·.type)=some 270:=by kernel_rfl
theorem adb:(Rows.laid_internal_strconv_uint64pow10:DataW Unit)=Lib.tabData .u64 Lib.pow10Tab:=by kernel_rfl
theorem ada:(Lib.pow10Tab.map λz=>Value.int .u64 z).toArray=wV:=by kernel_rfl
theorem aai:(Rows.codeSoundRow.laid.filter λx=>x.1 == "internal/strconv.uint64pow10")=[("internal/strconv.uint64pow10",(Rows.laid_internal_strconv_uint64pow10:DataW Unit))]:=by kernel_rfl
theorem adg{W:World}(h:laidMetH π Rows.codeSoundRow.laid W):∃ty fz,W.heap[0]? = some (.cells wV ty fz):=by
 have h1:=h.filter λx=>x.1 == "internal/strconv.uint64pow10"
 rw[aai,Q2 _ _ _ (by kernel_rfl),adb]at h1;have h2:Lib.TabIs π W "internal/strconv.uint64pow10" .u64 Lib.pow10Tab:=Lib.tabIs_of_head Tryz.Le Tryz.TY underlying270 underlying242 (by kernel_rfl) (by kernel_rfl) h1;unfold Lib.TabIs World.var? at h2;rw[Tryz.Le,ada]at h2;simp only[Option.bind_some]at h2;split at h2
 ·rename_i cs ty fz heq;simp only[Q4]at h2;exact⟨ty,fz,by rw[heq,h2]⟩
 ·cases h2
theorem ab0(ks:List Frame){S:Self}(hS:bK π S){w:World}(ht:∃ty fz,w.heap[0]? = some (.cells wV ty fz)){n':Nat}{f:FuncId}{us:List Value}(hc:∀top,aH (jv w.heap top) l us){st':St}
  (he:ib π S n' f l (ay.new (.ty 0 0 false))=some (.b true,st')):
  ∃w',jD π ks f us.toArray w w' (.bool true)/\w'.os=w.os/\w'.output=w.output/\w.heap.size<=w'.heap.size/\∀i,i<w.heap.size->w'.heap[i]? = w.heap[i]?:=by
 have hty:nj (jv w.heap st'.next) w.heap 0 0 false:=ht;have⟨E',w',cv,h1,h2,h3⟩:=GR (ks:=ks) hS (w:=w) (us:=us) (Step.Ej (Og w.heap st'.next) hty).rel (hc _) he (Nat.le_refl _);cases h3;refine⟨w',h1,h2.os,h2.out,h2.fr.size,λi hi=>h2.fr.keep i hi ?_⟩;rintro⟨r,row,B,ha,_,_⟩;unfold St.alive at ha;by_cases hr:r=ay.next
 ·rw[St.oG,if_pos hr]at ha;cases ha
 ·rw[St.oG,if_neg hr,qf]at ha;cases ha
theorem own:ownKnob π.godebug=none:=by kernel_rfl
theorem Tryz.TZ:laidOutB π=true:=by kernel_rfl
theorem aeb(N7 N:Nat):bK π (xI 5 (Tw (C7 N7) N)):=
 aea (Sq (Vj N7) N) λks w=>ab6 (IL IK) mixedOrders Zh ks w
theorem acE(u:Value)(W:World){r:Reach}{b0:Nat}{w1:World}{H:Type}{enc:TypeId×Value->H}{d:DataW H}{ps:List MemPlace}{base:Nat}{spare:Nat->Bool}{held:Bool}
  (hval:Value.okWide π w1 r b0 25 u) (hd:DataW.Trod enc π W base spare held 25 u d ps) (ht:∃ty fz,W.heap[0]? = some (.cells wV ty fz)):
  Calls π 4 #[u] W λe W'=>e=.returned (.bool true)/\(∀may,W.keptBut W' may)/\∀i,i<W.heap.size->W'.heap[i]? = W.heap[i]?:=by
 have⟨k,av,l,hc,hty,hl⟩:=Uk hval hd 0;obtain⟨cv,ds,b,rfl,hv,hb⟩:=abk hty;have hav:av=.ag [cv,b.slice 8]:=by
  rcases hl with h|h
  ·have:=congrArg List.length h;cases this
  ·exact h
 subst hav;have⟨st',he⟩:=YT (st:=ay.new (.ty 0 0 false)) hv hb ⟨0,by rw[St.oG];rfl⟩ (Nat.succ_pos _);exact Vo (λks=>ab0 ks (aeb _ _) ht (l:=[.ag [cv,b.slice 8]]) (us:=[u]) (λtop=>.cons _ _ _ _ (hc.mono (Yg _ _ _)) .nil) he)
theorem acG(os:Os)(started:os.Started)(H:Type)(enc:TypeId×Value->H):
  ReturnsInHanded {} checked os 4 .any (λw args=>(Rows.codeSoundSpec.pre enc π f4 Rows.codeSoundRow.domain false w args/\laidMetH π Rows.codeSoundRow.laid w)/\sizedMet enc π f4 (OpenSpec.ofChange Rows.codeSoundSpec) false w args)
   (Rows.codeSoundSpec.post enc π f4 false true false false):=by
 refine returnsInHanded_of_change_and (C:=checked) (X:=λw _=>laidMetH π Rows.codeSoundRow.laid w) (λ_ _ _ hh h=>h.of_heap hh) own started (by kernel_rfl) func4
  (ChangeSpec.witness_shaped (enc:=enc) (C:=checked) (os:=os) (X:=λw _=>laidMetH π Rows.codeSoundRow.laid w) false (World.laidAll π os Rows.codeSoundRow.laid)
   #[.agg #[.slice none 0 0,.slice none 0 0]] 8 (World.laidAll_os _ _ _)
   (World.shaped_of_ZipB (by kernel_rfl) (by kernel_rfl)) (by kernel_rfl) (by kernel_rfl) (by kernel_rfl)
   (by rw[Q2 _ _ _ (by kernel_rfl)];exact laidMet_laidAll _ (by kernel_rfl) (by kernel_rfl))) ?_
 intro W base args ds gs before hval0 hW hc _ hL _;have hW':=hW;obtain⟨p,q,hA0,hV,rfl,_,_⟩:=hW;have hA:DataW.TrodAll enc π W 0 (λ_=>true) true f4.params.toList args.toList ds p:=hA0;rw[params4]at hA;obtain⟨v0,d0,rfl,rfl,h0⟩:=trodAll_one hA;obtain⟨rfl,rfl⟩:=trodVars_none hV;have hlt:∀x∈p,x.block<W.heap.size:=λx hx=>by have:=hW'.lt x (by simpa using hx);exact this
 refine(acE v0 W (hval0 0 25 v0 (by rw[params4];rfl) rfl) h0 (adg hL)).mono λe W' ⟨he,hw,hk⟩=>?_
 subst he;refine⟨_,rfl,_,_,_,[],p,[],hW',?_,?_,?_,hw _,λh=>by cases h⟩
 ·exact trodAll_mk1 (shut_bool (by kernel_rfl) true)
 ·exact trodAll_mk1 (WideElems.Trod_stays Tryz.TZ (by kernel_rfl) (of_decide_eq_true (by kernel_rfl)) h0 (λx hx=>ab5 hk (hlt x hx)) (λx hx=>by simpa using hlt x hx))
 ·rfl
theorem acF:Rows.CodeSoundSaid :=
 OpenClaim.holds_of_wide 4 f4 rfl rfl rfl rfl rfl rfl rfl ⟨rfl,rfl,rfl,rfl,rfl⟩ rfl rfl rfl rfl rfl (by kernel_rfl) func4 (by kernel_rfl)
  (of_decide_eq_true (by kernel_rfl)) (by unfold Func.isWrapper;first|(rw[if_pos (by decide +kernel)];kernel_rfl)|(rw[if_neg (by decide +kernel)];exact⟨rfl,rfl⟩))
  (λos started H enc _=>acG os started H enc)
theorem acL:π.wantsStandIn 25=false:=by kernel_rfl
theorem sound_card:Rows.CodeSoundCardSaid :=
 Claim7.holds_tied_plain_at .later [] [.data,.data,.data] true (true, "435afc77752b2effc9afca3db1525889e44d374b2afabeb71f2b19f882ecc794") true
  acF (λ_ h=>by cases h) (by kernel_rfl) (λ_ h=>by cases h) codeSound_row_tie rfl ⟨rfl,rfl⟩ (by kernel_rfl) rfl
  (λf fn hf hfn=>by
   obtain rfl:f=4:=Q3 ((show π.funcNamed "thunkmill/thunkmilllaw20.CodeSound"=some 4 by kernel_rfl).symm.trans hf) |>.symm;obtain rfl:fn=f4:=(Q3 (func4.symm.trans hfn)).symm;exact⟨by kernel_rfl,λj t ht=>by
    rw[params4]at ht;have h25:t=25:=by
     cases j with
     |zero=>simpa using ht.symm
     |succ j=>simp at ht
    rw[h25];exact acL⟩)
  (by kernel_rfl)
#print axioms sound_card
