/- A part of the proof. -/
import Derived.Test.YtjpheibfljmbjaaGreatDoorS23
import Derived.Test.YtjpheibfljmbjaaGreatDoorCards
import Derived.Test.YtjpheibfljmbjaaGreatDoorTie
import Derived.ProofKit
import Derived.OpenShut
import Derived.LaidMore
import Derived.Lay
set_option maxRecDepth 100000
open List renaming mem_cons_self->Q0, mem_cons_of_mem->Q1
open Go.Lib renaming pow10Tab->Q2
open Go.MakeChecks renaming laidMetH_plain->Q3
open Option.some renaming inj->Q4, injEq->Q6
open Go.Proofs.Tryz
noncomputable section
open Go.Ev
namespace Go.Proofs.YtjpheibfljmbjaaGreatDoor
variable {k m z : Nat}{l : List AV}
open Go.ChangeShapes Go.WideShapes Go.ChangeAt Go.RowKit Go.Ev
theorem wA(h:Typed prog k 9 l):∃ s,l=[.s s]:=by
 cases k with
 |zero=>cases h
 |succ k =>simp only[Typed,underlying9]at h;obtain⟨n,h,-⟩:=h;exact⟨n,h⟩
theorem Ds(h:Typed prog k 3 l):∃ n,l=[.i .i64 n]/\-9223372036854775808<=n/\n<=9223372036854775807:=by
 cases k with
 |zero=>cases h
 |succ k =>simp only[Typed,underlying3]at h;obtain⟨n,h,h1,h2⟩:=h;exact⟨n,h,h1,h2⟩
theorem KX(h:Typed prog k 2 l):∃ n,l=[.i .i64 n]:=by
 cases k with
 |zero=>cases h
 |succ k =>simp only[Typed,underlying2]at h;obtain⟨n,h,-⟩:=h;exact⟨n,h⟩
theorem Kr:∀ {els:List (List AV)},(∀ x∈els,∃ s:ah,x=[.s s])->∃ ss:List ah,els.flatten=ss.map .s/\els.length=ss.length
 |[],_=>⟨[],rfl,rfl⟩
 |x::els,h=>by
  obtain⟨s,rfl⟩:=h x Q0;obtain⟨ss,h1,h2⟩:=Kr fun y hy=>h y (Q1 _ hy)
  exact⟨s::ss,by simp[h1],by simp[h2]⟩
theorem OL(h:Typed prog k 31 l):∃ v,l=[v]/\jY v:=by
 cases k with
 |zero=>cases h
 |succ k =>
  simp only[Typed,underlying31,oO]at h;rcases h with h|h|⟨els,h,h1,h2⟩
  ·cases h
  ·exact⟨_,h,[],.inl ⟨rfl,rfl⟩,by simp⟩
  ·obtain⟨ss,g1,g2⟩:=Kr fun x hx=>wA (h2 x hx).2
   refine⟨_,h,ss,.inr ?_,?_⟩
   ·rw[g1,g2,List.length_map]
   ·rw[<-g2];exact Nat.le_trans h1 (by decide)
theorem Rp{m z:Nat}:∀ {els:List (List AV)},(∀ x∈els,∃ p y,x=p++Ex.cells y/\eO m p/\y.Ty)->∃ l:ae,l.slice z=.rs els.flatten els.length z/\l.flat=els.flatten/\l.len=els.length/\l.Ty m
 |[],_=>⟨.nil false,by simp[ae.slice],by simp[ae.flat],by simp[ae.len],by simp[ae.Ty]⟩
 |x::els,h=>by
  obtain⟨p,y,rfl,h1,h2⟩:=h x (Q0 ..);obtain⟨l,-,k2,k3,k4⟩:=Rp (z:=z) fun x hx=>h x (Q1 _ hx)
  exact⟨.cons p y l,by simp[ae.slice,k2,k3],by simp[ae.flat,k2],by simp[ae.len,k3],by simp only[ae.Ty];exact⟨h1,h2,k4⟩⟩
theorem CG{e ty:Nat}(hu:prog.underlying ty=some (.slice e))(hz:aD prog e=z)(h0:z≠0)
  (ih:∀ x,Typed prog k e x->∃ p y,x=p++Ex.cells y/\eO m p/\y.Ty) (h:Typed prog (k+1) ty l):∃ ls:ae,l=[ls.slice z]/\ls.Ty m:=by
 simp only[Typed,hu,hz]at h;rcases h with h|h|⟨els,h,-,h2⟩
 ·exact absurd h h0
 ·exact⟨.nil true,by simp[h,ae.slice],by simp[ae.Ty]⟩
 ·obtain⟨ls,k1,-,-,k4⟩:=Rp fun x hx=>ih x (h2 x hx).2
  exact⟨ls,by rw[h,k1],k4⟩
theorem Zm:∀ (k:Nat) (l:List AV),Typed prog k 35 l->∃ x:Ex,x.Ty/\l=x.cells:=by
 intro k;induction k using Nat.strongRecOn with
 |ind k ih =>
  intro l h;cases k with
  |zero=>cases h
  |succ k =>
   simp only[Typed,underlying35]at h;obtain⟨parts,rfl,h1,h2⟩:=h (by kernel_rfl)
   match parts,h1,h2 with
   |[p0,p1,p2,p3,p4,p5,p6],h1,h2 =>
    obtain⟨kd,rfl,b1,b2⟩:=Ds (h2 0 _ p0 rfl rfl).2;obtain⟨nm,rfl⟩:=wA (h2 1 _ p1 rfl rfl).2;obtain⟨num,rfl⟩:=KX (h2 2 _ p2 rfl rfl).2;obtain⟨ps,rfl,hps⟩:=OL (h2 3 _ p3 rfl rfl).2;have t4:Typed prog k 23 p4:=(h2 4 _ p4 rfl rfl).2;have t5:Typed prog k 32 p5:=(h2 5 _ p5 rfl rfl).2;have t6:Typed prog k 33 p6:=(h2 6 _ p6 rfl rfl).2;cases k with
    |zero=>cases t4
    |succ k =>
     have i35:∀ x,Typed prog k 35 x->∃ p y,x=p++Ex.cells y/\eO 0 p/\y.Ty:=by intro x hx;obtain⟨y,w,rfl⟩:=ih k (by omega) x hx;exact⟨[],y,rfl,rfl,w⟩
     have i37:∀ x,Typed prog k 37 x->∃ p y,x=p++Ex.cells y/\eO 1 p/\y.Ty:=by
      intro x hx;cases k with
      |zero=>cases hx
      |succ k =>
       simp only[Typed,underlying37]at hx;obtain⟨qs,rfl,g1,g2⟩:=hx (by kernel_rfl)
       match qs,g1,g2 with
       |[q0,q1],g1,g2 =>obtain⟨s,rfl⟩:=wA (g2 0 _ q0 rfl rfl).2;obtain⟨y,w,rfl⟩:=ih k (by omega) q1 (g2 1 _ q1 rfl rfl).2;exact⟨[.s s],y,by simp,⟨s,rfl⟩,w⟩
     have i93:∀ x,Typed prog k 93 x->∃ p y,x=p++Ex.cells y/\eO 4 p/\y.Ty:=by
      intro x hx;cases k with
      |zero=>cases hx
      |succ k =>
       simp only[Typed,underlying93]at hx;obtain⟨qs,rfl,g1,g2⟩:=hx (by kernel_rfl)
       match qs,g1,g2 with
       |[q0,q1,q2,q3,q4],g1,g2 =>obtain⟨n,rfl,-⟩:=Ds (g2 0 _ q0 rfl rfl).2;obtain⟨s,rfl⟩:=wA (g2 1 _ q1 rfl rfl).2;obtain⟨n2,rfl⟩:=KX (g2 2 _ q2 rfl rfl).2;obtain⟨vs,rfl,hvs⟩:=OL (g2 3 _ q3 rfl rfl).2;obtain⟨y,w,rfl⟩:=ih k (by omega) q4 (g2 4 _ q4 rfl rfl).2;exact⟨[.i .i64 n,.s s,.i .i64 n2,vs],y,by simp,⟨n,s,n2,vs,rfl,hvs⟩,w⟩
     obtain⟨b,rfl,c2⟩:=CG underlying23 cV (by decide) i37 t4;obtain⟨a,rfl,c4⟩:=CG underlying32 aH (by decide) i35 t5;obtain⟨al,rfl,c6⟩:=CG underlying33 bU (by decide) i93 t6;exact⟨.mk kd nm num ps b a al,by simp only[Ex.Ty];exact⟨⟨b1,b2⟩,hps,c2,c4,c6⟩,by simp[Ex.cells]⟩
theorem Zg(h:Typed prog k 54 l):∃ d:cK,l=d.cells:=by
 cases k with
 |zero=>cases h
 |succ k =>
  simp only[Typed,underlying54]at h;obtain⟨qs,rfl,g1,g2⟩:=h (by kernel_rfl)
  match qs,g1,g2 with
  |[q0,q1,q2,q3],g1,g2 =>obtain⟨n,rfl⟩:=wA (g2 0 _ q0 rfl rfl).2;obtain⟨ar,rfl,-⟩:=Ds (g2 1 _ q1 rfl rfl).2;obtain⟨ty,rfl⟩:=wA (g2 2 _ q2 rfl rfl).2;obtain⟨tag,rfl,-⟩:=Ds (g2 3 _ q3 rfl rfl).2;exact⟨⟨n,ar,ty,tag⟩,rfl⟩
theorem MW:∀ {els:List (List AV)},(∀ x∈els,∃ d:cK,x=d.cells)->∃ ds:List cK,els=ds.map cK.cells
 |[],_=>⟨[],rfl⟩
 |x::els,h=>by
  obtain⟨d,rfl⟩:=h x Q0;obtain⟨ds,rfl⟩:=MW fun y hy=>h y (Q1 _ hy)
  exact⟨d::ds,rfl⟩
theorem YG(h:Typed prog k 22 l):∃ v ds,l=[v]/\iq v ds:=by
 cases k with
 |zero=>cases h
 |succ k =>
  simp only[Typed,underlying22,dq]at h;rcases h with h|h|⟨els,h,-,h2⟩
  ·cases h
  ·exact⟨_,[],h,.inl ⟨rfl,rfl⟩,fun x hx=>by cases hx⟩
  ·obtain⟨ds,rfl⟩:=MW fun x hx=>Zg (h2 x hx).2
   exact⟨_,ds,h,.inr rfl,fun x hx=>(h2 x hx).1⟩
theorem Yz(h:Typed prog k 23 l):∃ b:ae,l=[b.slice 8]/\b.Ty 1:=by
 cases k with
 |zero=>cases h
 |succ k =>
  refine CG underlying23 cV (by decide) (fun x hx=>?_) h;cases k with
  |zero=>cases hx
  |succ k =>
   simp only[Typed,underlying37]at hx;obtain⟨qs,rfl,g1,g2⟩:=hx (by kernel_rfl)
   match qs,g1,g2 with
   |[q0,q1],g1,g2 =>obtain⟨s,rfl⟩:=wA (g2 0 _ q0 rfl rfl).2;obtain⟨y,w,rfl⟩:=Zm k q1 (g2 1 _ q1 rfl rfl).2;exact⟨[.s s],y,by simp,⟨s,rfl⟩,w⟩
theorem T5(h:Typed prog k 25 l):∃ cv ds,∃ b:ae,l=[cv,b.slice 8]/\iq cv ds/\b.Ty 1:=by
 cases k with
 |zero=>cases h
 |succ k =>
  simp only[Typed,underlying25]at h;obtain⟨qs,rfl,g1,g2⟩:=h (by kernel_rfl)
  match qs,g1,g2 with
  |[q0,q1],g1,g2 =>obtain⟨cv,ds,rfl,hv⟩:=YG (g2 0 _ q0 rfl rfl).2;obtain⟨b,rfl,hb⟩:=Yz (g2 1 _ q1 rfl rfl).2;exact⟨cv,ds,b,rfl,hv,hb⟩
theorem Tryz.OD:prog.globalNamed "internal/strconv.uint64pow10"=some 1:=by kernel_rfl
theorem Tryz.TH:(prog.globals[1]?).map (·.type)=some 206:=by kernel_rfl
theorem UF:(Rows.laid_internal_strconv_uint64pow10:DataW Unit)=Lib.tabData .u64 Q2:=by kernel_rfl
theorem SV:(Q2.map fun z=>Value.int .u64 z).toArray=xp:=by kernel_rfl
theorem Ws:(Rows.liftStaysRow.laid.filter fun x=>x.1 == "internal/strconv.uint64pow10")=[("internal/strconv.uint64pow10",(Rows.laid_internal_strconv_uint64pow10:DataW Unit))]:=by kernel_rfl
theorem UM{W:World}(h:laidMetH prog Rows.liftStaysRow.laid W):∃ ty fz,W.heap[1]? = some (.cells xp ty fz):=by
 have h1:=h.filter fun x=>x.1 == "internal/strconv.uint64pow10"
 rw[Ws,Q3 _ _ _ (by kernel_rfl),UF]at h1;have h2:Lib.TabIs prog W "internal/strconv.uint64pow10" .u64 Q2:=Lib.tabIs_of_head Tryz.OD Tryz.TH underlying206 underlying144 (by kernel_rfl) (by kernel_rfl) h1;unfold Lib.TabIs World.var? at h2;rw[Tryz.OD,SV]at h2;simp only[Option.bind_some]at h2;split at h2
 ·rename_i cs ty fz heq;simp only[Q6]at h2;exact⟨ty,fz,by rw[heq,h2]⟩
 ·cases h2
theorem aaT(ks:List Frame){S:Self}(hS:cq prog S){w:World}(ht:∃ ty fz,w.heap[1]? = some (.cells xp ty fz)){n':Nat}{f:FuncId}{us:List Value}(hc:∀ top,aP (jF w.heap top) l us){st':St}
  (he:ke prog S n' f l (aK.new (.ty 0 1 false))=some (.b true,st')):
  ∃ w',lQ prog ks f us.toArray w w' (.bool true)/\w'.os=w.os/\w'.output=w.output/\w.heap.size<=w'.heap.size/\∀ i,i<w.heap.size->w'.heap[i]? = w.heap[i]?:=by
 have hty:sZ (jF w.heap st'.next) w.heap 0 1 false:=ht;obtain⟨E',w',cv,h1,h2,h3⟩:=Jl hS (Step.UH (KP w.heap st'.next) hty).rel (hc _) he (Nat.le_refl _);cases h3;refine⟨w',h1,h2.os,h2.out,h2.fr.size,fun i hi=>h2.fr.keep i hi ?_⟩;rintro⟨r,row,B,ha,_,_⟩;unfold St.alive at ha;by_cases hr:r=aK.next
 ·rw[St.pP,if_pos hr]at ha;cases ha
 ·rw[St.pP,if_neg hr,qz]at ha;cases ha
theorem own:ownKnob prog.godebug=none:=by kernel_rfl
theorem Tryz.Wv:laidOutB prog=true:=by kernel_rfl
theorem TX(N7 N:Nat):cq prog (fH 4 (Tw (C7 N7) N)):=
 aaj (Ku (SN N7) N) fun ks w=>Ta (Gv FB) mixedOrders Xf ks w
theorem RH(u:Value)(W:World){r:Reach}{b0:Nat}{w1:World}{H:Type}{enc:TypeId× Value->H}{d:DataW H}{ps:List MemPlace}{base:Nat}{spare:Nat->Bool}{held:Bool}
  (hval:Value.okWide prog w1 r b0 25 u) (hd:DataW.Trod enc prog W base spare held 25 u d ps) (ht:∃ ty fz,W.heap[1]? = some (.cells xp ty fz)):
  Calls prog 3 #[u] W fun e W'=>e=.returned (.bool true)/\(∀ may,W.keptBut W' may)/\∀ i,i<W.heap.size->W'.heap[i]? = W.heap[i]?:=by
 obtain⟨k,av,l,hc,hty,hl⟩:=T7 hval hd 0;obtain⟨cv,ds,b,rfl,hv,hb⟩:=T5 hty;have hav:av=.ag [cv,b.slice 8]:=by
  rcases hl with h|h
  ·have:=congrArg List.length h;cases this
  ·exact h
 subst hav;obtain⟨st',he⟩:=Xh (st:=aK.new (.ty 0 1 false)) hv hb ⟨0,by rw[St.pP];rfl⟩ (Nat.succ_pos _);exact XT (fun ks=>aaT ks (TX _ _) ht (l:=[.ag [cv,b.slice 8]]) (us:=[u]) (fun top=>.cons _ _ _ _ (hc.mono (Xd _ _ _)) .nil) he)
theorem Zj(os:Os)(started:os.Started)(H:Type)(enc:TypeId× Value->H):
  ReturnsInHanded {} checked os 3 .any (fun w args=>(Rows.liftStaysSpec.pre enc prog f3 Rows.liftStaysRow.domain false w args/\laidMetH prog Rows.liftStaysRow.laid w)/\sizedMet enc prog f3 (OpenSpec.ofChange Rows.liftStaysSpec) false w args)
   (Rows.liftStaysSpec.post enc prog f3 false true false false):=by
 refine returnsInHanded_of_change_and (C:=checked) (X:=fun w _=>laidMetH prog Rows.liftStaysRow.laid w) (fun _ _ _ hh h=>h.of_heap hh) own started (by kernel_rfl) func3
  (ChangeSpec.witness_shaped (enc:=enc) (C:=checked) (os:=os) (X:=fun w _=>laidMetH prog Rows.liftStaysRow.laid w) false (World.laidAll prog os Rows.liftStaysRow.laid)
   #[.agg #[.slice none 0 0,.slice none 0 0]] 8 (World.laidAll_os _ _ _)
   (World.shaped_of_ZipB (by kernel_rfl) (by kernel_rfl)) (by kernel_rfl) (by kernel_rfl) (by kernel_rfl)
   (by rw[Q3 _ _ _ (by kernel_rfl)];exact laidMet_laidAll _ (by kernel_rfl) (by kernel_rfl))) ?_
 intro W base args ds gs before hval0 hW hc _ hL _;have hW':=hW;obtain⟨p,q,hA0,hV,rfl,_,_⟩:=hW;have hA:DataW.TrodAll enc prog W 0 (fun _=>true) true f3.params.toList args.toList ds p:=hA0;rw[params3]at hA;obtain⟨v0,d0,rfl,rfl,h0⟩:=trodAll_one hA;obtain⟨rfl,rfl⟩:=trodVars_none hV;have hlt:∀ x∈p,x.block<W.heap.size:=fun x hx=>by have:=hW'.lt x (by simpa using hx);exact this
 refine(RH v0 W (hval0 0 25 v0 (by rw[params3];rfl) rfl) h0 (UM hL)).mono fun e W' ⟨he,hw,hk⟩=>?_
 subst he;refine⟨_,rfl,_,_,_,[],p,[],hW',?_,?_,?_,hw _,fun h=>by cases h⟩
 ·exact trodAll_mk1 (shut_bool (by kernel_rfl) true)
 ·exact trodAll_mk1 (WideElems.Trod_stays Tryz.Wv (by kernel_rfl) (of_decide_eq_true (by kernel_rfl)) h0 (fun x hx=>Wt hk (hlt x hx)) (fun x hx=>by simpa using hlt x hx))
 ·rfl
theorem acz:Rows.LiftStaysSaid :=
 OpenClaim.holds_of_wide 3 f3 rfl rfl rfl rfl rfl rfl rfl ⟨rfl,rfl,rfl,rfl,rfl⟩ rfl rfl rfl rfl rfl (by kernel_rfl) func3 (by kernel_rfl)
  (of_decide_eq_true (by kernel_rfl)) (by unfold Func.isWrapper;first|(rw[if_pos (by decide +kernel)];kernel_rfl)|(rw[if_neg (by decide +kernel)];exact⟨rfl,rfl⟩))
  (fun os started H enc _=>Zj os started H enc)
theorem US:prog.wantsStandIn 25=false:=by kernel_rfl
theorem stays_card:Rows.LiftStaysCardSaid :=
 Claim7.holds_tied_plain_at .later [] [.data,.data,.data] true (true, "24a3db37e77d4d5229e363c755340d423e2f5fc0e966b74098f7c60700ecef14") true
  acz (fun _ h=>by cases h) (by kernel_rfl) (fun _ h=>by cases h) liftStays_row_tie rfl ⟨rfl,rfl⟩ (by kernel_rfl) rfl
  (fun f fn hf hfn=>by
   obtain rfl:f=3:=Q4 ((show prog.funcNamed "thunkmill/thunkmilllaw19.LiftStays"=some 3 by kernel_rfl).symm.trans hf) |>.symm;obtain rfl:fn=f3:=(Q4 (func3.symm.trans hfn)).symm;exact⟨by kernel_rfl,fun j t ht=>by
    rw[params3]at ht;have h25:t=25:=by
     cases j with
     |zero=>simpa using ht.symm
     |succ j=>simp at ht
    rw[h25];exact US⟩)
  (by kernel_rfl)
#print axioms stays_card
