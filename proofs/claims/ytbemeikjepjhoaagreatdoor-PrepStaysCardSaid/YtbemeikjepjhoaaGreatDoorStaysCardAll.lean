/-
  PrepStays answers true for every input, and leaves the world's memory as it was: the row and its tied card. The listed table of powers of ten is what the row's 
-/
import Derived.Test.YtbemeikjepjhoaaGreatDoorS48
import Derived.Test.YtbemeikjepjhoaaGreatDoorCards
import Derived.Test.YtbemeikjepjhoaaGreatDoorTie
import Derived.ProofKit
import Derived.OpenShut
import Derived.LaidMore
import Derived.Lay
import Derived.SevenTiedAt
import Derived.Stop.Joined
import Derived.Lib.LaidTab
namespace Go.Proofs.YtbemeikjepjhoaaGreatDoor
open Go.ChangeShapes Go.WideShapes Go.ChangeAt Go.RowKit Go.Ev
set_option maxRecDepth 100000
theorem str_typed {k:Nat} {l:List AV} (h:Typed Tryz.prog k 9 l):∃ s,l=[.s s]:=by
 cases k with
 | zero=>cases h
 | succ k =>
  simp only [Typed,Tryz.underlying9] at h
  obtain ⟨n,h,-⟩:=h
  exact ⟨n,h⟩
theorem int_typed {k:Nat} {l:List AV} (h:Typed Tryz.prog k 3 l):∃ n,l=[.i .i64 n]∧-9223372036854775808≤n∧n≤9223372036854775807:=by
 cases k with
 | zero=>cases h
 | succ k =>
  simp only [Typed,Tryz.underlying3] at h
  obtain ⟨n,h,h1,h2⟩:=h
  exact ⟨n,h,h1,h2⟩
theorem int2_typed {k:Nat} {l:List AV} (h:Typed Tryz.prog k 2 l):∃ n,l=[.i .i64 n]:=by
 cases k with
 | zero=>cases h
 | succ k =>
  simp only [Typed,Tryz.underlying2] at h
  obtain ⟨n,h,-⟩:=h
  exact ⟨n,h⟩
theorem flat_strs:∀ {els:List (List AV)},(∀ x ∈ els,∃ s:Str,x=[.s s])→∃ ss:List Str,els.flatten=ss.map .s∧els.length=ss.length
 | [],_=>⟨[],rfl,rfl⟩
 | x :: els,h=>by
  obtain ⟨s,rfl⟩:=h x List.mem_cons_self
  obtain ⟨ss,h1,h2⟩:=flat_strs fun y hy=>h y (List.mem_cons_of_mem _ hy)
  exact ⟨s :: ss,by simp [h1],by simp [h2]⟩
theorem strs_typed {k:Nat} {l:List AV} (h:Typed Tryz.prog k 36 l):∃ v,l=[v]∧IsNm v:=by
 cases k with
 | zero=>cases h
 | succ k =>
  simp only [Typed,Tryz.underlying36,sz9] at h
  rcases h with h | h | ⟨els,h,h1,h2⟩
  ·cases h
  ·exact ⟨_,h,[],.inl ⟨rfl,rfl⟩,by simp⟩
  ·obtain ⟨ss,g1,g2⟩:=flat_strs fun x hx=>str_typed (h2 x hx).2
   refine ⟨_,h,ss,.inr ?_,?_⟩
   ·rw [g1,g2,List.length_map]
   ·rw [← g2]
    exact Nat.le_trans h1 (by decide)
theorem mk_kids {m z:Nat}:∀ {els:List (List AV)},(∀ x ∈ els,∃ p y,x=p++Ex.cells y∧preOK m p∧y.Ty)→∃ l:ExL,l.slice z = .rs els.flatten els.length z∧l.flat=els.flatten∧l.len=els.length∧l.Ty m
 | [],_=>⟨.nil false,by simp [ExL.slice],by simp [ExL.flat],by simp [ExL.len],by simp [ExL.Ty]⟩
 | x :: els,h=>by
  obtain ⟨p,y,rfl,h1,h2⟩:=h x (List.mem_cons_self ..)
  obtain ⟨l,-,k2,k3,k4⟩:=mk_kids (m:=m) (z:=z) fun x hx=>h x (List.mem_cons_of_mem _ hx)
  exact ⟨.cons p y l,by simp [ExL.slice,k2,k3],by simp [ExL.flat,k2],by simp [ExL.len,k3],by simp only [ExL.Ty]; exact ⟨h1,h2,k4⟩⟩
theorem kids_typed {e ty z m k:Nat} (hu:Tryz.prog.underlying ty=some (.slice e)) (hz:szOf Tryz.prog e=z) (h0:z≠0)
  (ih:∀ x,Typed Tryz.prog k e x→∃ p y,x=p++Ex.cells y∧preOK m p∧y.Ty) {l:List AV} (h:Typed Tryz.prog (k+1) ty l):∃ ls:ExL,l=[ls.slice z]∧ls.Ty m:=by
 simp only [Typed,hu,hz] at h
 rcases h with h | h | ⟨els,h,-,h2⟩
 ·exact absurd h h0
 ·exact ⟨.nil true,by simp [h,ExL.slice],by simp [ExL.Ty]⟩
 ·obtain ⟨ls,k1,-,-,k4⟩:=mk_kids (z:=z) fun x hx=>ih x (h2 x hx).2
  exact ⟨ls,by rw [h,k1],k4⟩
theorem ex_typed:∀ (k:Nat) (l:List AV),Typed Tryz.prog k 40 l→∃ x:Ex,x.Ty∧l=x.cells:=by
 intro k
 induction k using Nat.strongRecOn with
 | ind k ih =>
  intro l h
  cases k with
  | zero=>cases h
  | succ k =>
   simp only [Typed,Tryz.underlying40] at h
   obtain ⟨parts,rfl,h1,h2⟩:=h (by kernel_rfl)
   match parts,h1,h2 with
   | [p0,p1,p2,p3,p4,p5,p6],h1,h2 =>
    obtain ⟨kd,rfl,b1,b2⟩:=int_typed (h2 0 _ p0 rfl rfl).2
    obtain ⟨nm,rfl⟩:=str_typed (h2 1 _ p1 rfl rfl).2
    obtain ⟨num,rfl⟩:=int2_typed (h2 2 _ p2 rfl rfl).2
    obtain ⟨ps,rfl,hps⟩:=strs_typed (h2 3 _ p3 rfl rfl).2
    have t4:Typed Tryz.prog k 23 p4:=(h2 4 _ p4 rfl rfl).2
    have t5:Typed Tryz.prog k 37 p5:=(h2 5 _ p5 rfl rfl).2
    have t6:Typed Tryz.prog k 38 p6:=(h2 6 _ p6 rfl rfl).2
    cases k with
    | zero=>cases t4
    | succ k =>
     have i40:∀ x,Typed Tryz.prog k 40 x→∃ p y,x=p++Ex.cells y∧preOK 0 p∧y.Ty:=by
      intro x hx
      obtain ⟨y,w,rfl⟩:=ih k (by omega) x hx
      exact ⟨[],y,rfl,rfl,w⟩
     have i42:∀ x,Typed Tryz.prog k 42 x→∃ p y,x=p++Ex.cells y∧preOK 1 p∧y.Ty:=by
      intro x hx
      cases k with
      | zero=>cases hx
      | succ k =>
       simp only [Typed,Tryz.underlying42] at hx
       obtain ⟨qs,rfl,g1,g2⟩:=hx (by kernel_rfl)
       match qs,g1,g2 with
       | [q0,q1],g1,g2 =>
        obtain ⟨s,rfl⟩:=str_typed (g2 0 _ q0 rfl rfl).2
        obtain ⟨y,w,rfl⟩:=ih k (by omega) q1 (g2 1 _ q1 rfl rfl).2
        exact ⟨[.s s],y,by simp,⟨s,rfl⟩,w⟩
     have i80:∀ x,Typed Tryz.prog k 80 x→∃ p y,x=p++Ex.cells y∧preOK 4 p∧y.Ty:=by
      intro x hx
      cases k with
      | zero=>cases hx
      | succ k =>
       simp only [Typed,Tryz.underlying80] at hx
       obtain ⟨qs,rfl,g1,g2⟩:=hx (by kernel_rfl)
       match qs,g1,g2 with
       | [q0,q1,q2,q3,q4],g1,g2 =>
        obtain ⟨n,rfl,-⟩:=int_typed (g2 0 _ q0 rfl rfl).2
        obtain ⟨s,rfl⟩:=str_typed (g2 1 _ q1 rfl rfl).2
        obtain ⟨n2,rfl⟩:=int2_typed (g2 2 _ q2 rfl rfl).2
        obtain ⟨vs,rfl,hvs⟩:=strs_typed (g2 3 _ q3 rfl rfl).2
        obtain ⟨y,w,rfl⟩:=ih k (by omega) q4 (g2 4 _ q4 rfl rfl).2
        exact ⟨[.i .i64 n,.s s,.i .i64 n2,vs],y,by simp,⟨n,s,n2,vs,rfl,hvs⟩,w⟩
     obtain ⟨b,rfl,c2⟩:=kids_typed Tryz.underlying23 sz42 (by decide) i42 t4
     obtain ⟨a,rfl,c4⟩:=kids_typed Tryz.underlying37 sz40 (by decide) i40 t5
     obtain ⟨al,rfl,c6⟩:=kids_typed Tryz.underlying38 sz80 (by decide) i80 t6
     exact ⟨.mk kd nm num ps b a al,by simp only [Ex.Ty]; exact ⟨⟨b1,b2⟩,hps,c2,c4,c6⟩,by simp [Ex.cells]⟩
theorem con_typed {k:Nat} {l:List AV} (h:Typed Tryz.prog k 35 l):∃ d:ConD,l=d.cells:=by
 cases k with
 | zero=>cases h
 | succ k =>
  simp only [Typed,Tryz.underlying35] at h
  obtain ⟨qs,rfl,g1,g2⟩:=h (by kernel_rfl)
  match qs,g1,g2 with
  | [q0,q1,q2,q3],g1,g2 =>
   obtain ⟨n,rfl⟩:=str_typed (g2 0 _ q0 rfl rfl).2
   obtain ⟨ar,rfl,-⟩:=int_typed (g2 1 _ q1 rfl rfl).2
   obtain ⟨ty,rfl⟩:=str_typed (g2 2 _ q2 rfl rfl).2
   obtain ⟨tag,rfl,-⟩:=int_typed (g2 3 _ q3 rfl rfl).2
   exact ⟨⟨n,ar,ty,tag⟩,rfl⟩
theorem con_list:∀ {els:List (List AV)},(∀ x ∈ els,∃ d:ConD,x=d.cells)→∃ ds:List ConD,els=ds.map ConD.cells
 | [],_=>⟨[],rfl⟩
 | x :: els,h=>by
  obtain ⟨d,rfl⟩:=h x List.mem_cons_self
  obtain ⟨ds,rfl⟩:=con_list fun y hy=>h y (List.mem_cons_of_mem _ hy)
  exact ⟨d :: ds,rfl⟩
theorem cons_typed {k:Nat} {l:List AV} (h:Typed Tryz.prog k 22 l):∃ v ds,l=[v]∧IsCons v ds:=by
 cases k with
 | zero=>cases h
 | succ k =>
  simp only [Typed,Tryz.underlying22,sz35] at h
  rcases h with h | h | ⟨els,h,-,h2⟩
  ·cases h
  ·exact ⟨_,[],h,.inl ⟨rfl,rfl⟩,fun x hx=>by cases hx⟩
  ·obtain ⟨ds,rfl⟩:=con_list fun x hx=>con_typed (h2 x hx).2
   exact ⟨_,ds,h,.inr rfl,fun x hx=>(h2 x hx).1⟩
theorem binds_typed {k:Nat} {l:List AV} (h:Typed Tryz.prog k 23 l):∃ b:ExL,l=[b.slice 8]∧b.Ty 1:=by
 cases k with
 | zero=>cases h
 | succ k =>
  refine kids_typed Tryz.underlying23 sz42 (by decide) (fun x hx=>?_) h
  cases k with
  | zero=>cases hx
  | succ k =>
   simp only [Typed,Tryz.underlying42] at hx
   obtain ⟨qs,rfl,g1,g2⟩:=hx (by kernel_rfl)
   match qs,g1,g2 with
   | [q0,q1],g1,g2 =>
    obtain ⟨s,rfl⟩:=str_typed (g2 0 _ q0 rfl rfl).2
    obtain ⟨y,w,rfl⟩:=ex_typed k q1 (g2 1 _ q1 rfl rfl).2
    exact ⟨[.s s],y,by simp,⟨s,rfl⟩,w⟩
theorem prog_typed {k:Nat} {l:List AV} (h:Typed Tryz.prog k 25 l):∃ cv ds,∃ b:ExL,l=[cv,b.slice 8]∧IsCons cv ds∧b.Ty 1:=by
 cases k with
 | zero=>cases h
 | succ k =>
  simp only [Typed,Tryz.underlying25] at h
  obtain ⟨qs,rfl,g1,g2⟩:=h (by kernel_rfl)
  match qs,g1,g2 with
  | [q0,q1],g1,g2 =>
   obtain ⟨cv,ds,rfl,hv⟩:=cons_typed (g2 0 _ q0 rfl rfl).2
   obtain ⟨b,rfl,hb⟩:=binds_typed (g2 1 _ q1 rfl rfl).2
   exact ⟨cv,ds,b,rfl,hv,hb⟩
theorem Tryz.gT:Tryz.prog.globalNamed "internal/strconv.uint64pow10" = some 1:=by kernel_rfl
theorem Tryz.gTy:(Tryz.prog.globals[1]?).map (·.type)=some 147:=by kernel_rfl
theorem tab_data:(Rows.laid_internal_strconv_uint64pow10:DataW Unit)=Lib.tabData .u64 Lib.pow10Tab:=by kernel_rfl
theorem tab_cells:(Lib.pow10Tab.map fun z=>Value.int .u64 z).toArray=pow10Cells:=by kernel_rfl
theorem only_tab:(Rows.prepStaysRow.laid.filter fun x=>x.1 == "internal/strconv.uint64pow10")=[("internal/strconv.uint64pow10",(Rows.laid_internal_strconv_uint64pow10:DataW Unit))]:=by kernel_rfl
theorem tab_there {W:World} (h:laidMetH Tryz.prog Rows.prepStaysRow.laid W):∃ ty fz,W.heap[1]? = some (.cells pow10Cells ty fz):=by
 have h1:=h.filter fun x=>x.1 == "internal/strconv.uint64pow10"
 rw [only_tab,MakeChecks.laidMetH_plain _ _ _ (by kernel_rfl),tab_data] at h1
 have h2:Lib.TabIs Tryz.prog W "internal/strconv.uint64pow10" .u64 Lib.pow10Tab:=Lib.tabIs_of_head Tryz.gT Tryz.gTy Tryz.underlying147 Tryz.underlying137 (by kernel_rfl) (by kernel_rfl) h1
 unfold Lib.TabIs World.var? at h2
 rw [Tryz.gT,tab_cells] at h2
 simp only [Option.bind_some] at h2
 split at h2
 ·rename_i cs ty fz heq
  simp only [Option.some.injEq] at h2
  exact ⟨ty,fz,by rw [heq,h2]⟩
 ·cases h2
theorem run_callsT {S:Self} (hS:SelfOK Tryz.prog S) {w:World} (ht:∃ ty fz,w.heap[1]? = some (.cells pow10Cells ty fz)) {n':Nat} {f:FuncId} {l:List AV} {us:List Value} (hc:∀ top,ConcL (inEnv w.heap top) l us) {st':St}
  (he:evBody Tryz.prog S n' f l (st0.new (.ty 0 1 false))=some (.b true,st')) :
  ∃ w',CallsTo Tryz.prog f us.toArray w w' (.bool true)∧w'.os=w.os∧w'.output=w.output∧w.heap.size≤w'.heap.size∧∀ i,i < w.heap.size→w'.heap[i]? = w.heap[i]?:=by
 have hty:TyAt (inEnv w.heap st'.next) w.heap 0 1 false:=ht
 obtain ⟨E',w',cv,h1,h2,h3⟩:=body_spec hS (w:=w) (us:=us) (Step.newTy (inEnv_rel w.heap st'.next) hty).rel (hc _) he (Nat.le_refl _)
 cases h3
 refine ⟨w',h1,h2.os,h2.out,h2.fr.size,fun i hi=>h2.fr.keep i hi ?_⟩
 rintro ⟨r,row,B,ha,_,_⟩
 unfold St.alive at ha
 by_cases hr:r=st0.next
 ·rw [St.get_new,if_pos hr] at ha; cases ha
 ·rw [St.get_new,if_neg hr,st0_get] at ha; cases ha
theorem own:ownKnob Tryz.prog.godebug=none:=by kernel_rfl
theorem Tryz.laidOutC:laidOutB Tryz.prog=true:=by kernel_rfl
theorem wl_ok (N7 N:Nat):SelfOK Tryz.prog (withTrue 4 (Tw (C7 N7) N)) :=
 withTrue_ok (tw_ok (c7_ok N7) N) fun w=>saysTrue_calls (noNG_spec noGoroutines) mixedOrders lives_true w
theorem stays_calls (u:Value) (W:World) {r:Reach} {b0:Nat} {w1:World} {H:Type} {enc:TypeId × Value→H} {d:DataW H} {ps:List MemPlace} {base:Nat} {spare:Nat→Bool} {held:Bool}
  (hval:Value.okWide Tryz.prog w1 r b0 25 u) (hd:DataW.Trod enc Tryz.prog W base spare held 25 u d ps) (ht:∃ ty fz,W.heap[1]? = some (.cells pow10Cells ty fz)) :
  Calls Tryz.prog 3 #[u] W fun e W'=>e = .returned (.bool true)∧(∀ may,W.keptBut W' may)∧∀ i,i < W.heap.size→W'.heap[i]? = W.heap[i]?:=by
 obtain ⟨k,av,l,hc,hty,hl⟩:=arg_of hval hd 0
 obtain ⟨cv,ds,b,rfl,hv,hb⟩:=prog_typed hty
 have hav:av = .ag [cv,b.slice 8]:=by
  rcases hl with h | h
  ·have:=congrArg List.length h
   cases this
  ·exact h
 subst hav
 obtain ⟨st',he⟩:=law_body (st:=st0.new (.ty 0 1 false)) hv hb ⟨0,by rw [St.get_new]; rfl⟩ (Nat.succ_pos _)
 exact calls_ofN (run_callsT (wl_ok _ _) ht (l:=[.ag [cv,b.slice 8]]) (us:=[u]) (fun top=>.cons _ _ _ _ (hc.mono (inEnv_le _ _ _)) .nil) he)
theorem stays_lifted (os:Os) (started:os.Started) (H:Type) (enc:TypeId × Value→H) :
  ReturnsInHanded {} Tryz.checked os 3 .any (fun w args=>(Rows.prepStaysSpec.pre enc Tryz.prog Tryz.f3 Rows.prepStaysRow.domain false w args∧laidMetH Tryz.prog Rows.prepStaysRow.laid w)∧sizedMet enc Tryz.prog Tryz.f3 (OpenSpec.ofChange Rows.prepStaysSpec) false w args)
   (Rows.prepStaysSpec.post enc Tryz.prog Tryz.f3 false true false false):=by
 refine returnsInHanded_of_change_and (C:=Tryz.checked) (X:=fun w _=>laidMetH Tryz.prog Rows.prepStaysRow.laid w) (fun _ _ _ hh h=>h.of_heap hh) own started (by kernel_rfl) Tryz.func3
  (ChangeSpec.witness_shaped (enc:=enc) (C:=Tryz.checked) (os:=os) (X:=fun w _=>laidMetH Tryz.prog Rows.prepStaysRow.laid w) false (World.laidAll Tryz.prog os Rows.prepStaysRow.laid)
   #[.agg #[.slice none 0 0,.slice none 0 0]] 8 (World.laidAll_os _ _ _)
   (World.shaped_of_ZipB (by kernel_rfl) (by kernel_rfl)) (by kernel_rfl) (by kernel_rfl) (by kernel_rfl)
   (by rw [MakeChecks.laidMetH_plain _ _ _ (by kernel_rfl)]; exact laidMet_laidAll _ (by kernel_rfl) (by kernel_rfl))) ?_
 intro W base args ds gs before hval0 hW hc _ hL _
 have hW':=hW
 obtain ⟨p,q,hA0,hV,rfl,_,_⟩:=hW
 have hA:DataW.TrodAll enc Tryz.prog W 0 (fun _=>true) true Tryz.f3.params.toList args.toList ds p:=hA0
 rw [Tryz.params3] at hA
 obtain ⟨v0,d0,rfl,rfl,h0⟩:=trodAll_one hA
 obtain ⟨rfl,rfl⟩:=trodVars_none hV
 have hlt:∀ x ∈ p,x.block < W.heap.size:=fun x hx=>by
  have:=hW'.lt x (by simpa using hx)
  exact this
 refine (stays_calls v0 W (hval0 0 25 v0 (by rw [Tryz.params3]; rfl) rfl) h0 (tab_there hL)).mono fun e W' ⟨he,hw,hk⟩=>?_
 subst he
 refine ⟨_,rfl,_,_,_,[],p,[],hW',?_,?_,?_,hw _,fun h=>by cases h⟩
 ·exact trodAll_mk1 (shut_bool (by kernel_rfl) true)
 ·exact trodAll_mk1 (WideElems.Trod_stays Tryz.laidOutC (by kernel_rfl) (of_decide_eq_true (by kernel_rfl)) h0 (fun x hx=>same_of_kept hk (hlt x hx)) (fun x hx=>by simpa using hlt x hx))
 ·rfl
theorem stays_holds:Rows.PrepStaysSaid :=
 OpenClaim.holds_of_wide 3 Tryz.f3 rfl rfl rfl rfl rfl rfl rfl ⟨rfl,rfl,rfl,rfl,rfl⟩ rfl rfl rfl rfl rfl (by kernel_rfl) Tryz.func3 (by kernel_rfl)
  (of_decide_eq_true (by kernel_rfl)) (by unfold Func.isWrapper; first | (rw [if_pos (by decide +kernel)]; kernel_rfl) | (rw [if_neg (by decide +kernel)]; exact ⟨rfl,rfl⟩))
  (fun os started H enc _=>stays_lifted os started H enc)
theorem stand25:Tryz.prog.wantsStandIn 25=false:=by kernel_rfl
theorem stays_card:Rows.PrepStaysCardSaid :=
 Claim7.holds_tied_plain_at .later [] [.data,.data,.data] true (true, "1a97884b38dd4cbae7010c6c39778a3199647e6e8ff0c408d28e63eca0b8dd21") true
  stays_holds (fun _ h=>by cases h) (by kernel_rfl) (fun _ h=>by cases h) prepStays_row_tie rfl ⟨rfl,rfl⟩ (by kernel_rfl) rfl
  (fun f fn hf hfn=>by
   obtain rfl:f=3:=Option.some.inj ((show Tryz.prog.funcNamed "thunkmill/thunkmilllaw18.PrepStays" = some 3 by kernel_rfl).symm.trans hf) |>.symm
   obtain rfl:fn=Tryz.f3:=(Option.some.inj (Tryz.func3.symm.trans hfn)).symm
   exact ⟨by kernel_rfl,fun j t ht=>by
    rw [Tryz.params3] at ht
    have h25:t=25:=by
     cases j with
     | zero=>simpa using ht.symm
     | succ j=>simp at ht
    rw [h25]
    exact stand25⟩)
  (by kernel_rfl)
#print axioms stays_card
end Go.Proofs.YtbemeikjepjhoaaGreatDoor
