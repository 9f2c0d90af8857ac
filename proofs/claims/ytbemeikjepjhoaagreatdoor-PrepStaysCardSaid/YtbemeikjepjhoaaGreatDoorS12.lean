/-
  Each operation that calls no Go function does in the model's memory what it does in the abstract state. · One operation of a region, as the machine steps. · What is said of calls and of code: the machine goes where the abstract run goes. · Guards, slots.
-/
import Derived.Test.YtbemeikjepjhoaaGreatDoorS11
import Derived.AtR
import Derived.Conc.LoneSelect
import Derived.Test.YtbemeikjepjhoaaGreatDoorS05
import Derived.Defers
namespace Go.Ev
noncomputable section
def goCall:Op→Bool
 | .send _ _=>true
 | .select _ _=>true
 | .call c=>match c.callee with
  | .builtin _=>false
  | _=>true
 | _=>false
section
variable {P : Program} {w : World} {E : Env} {st : St}
theorem concO {t:Tr AV} {ρ:Operand→Value} (hρ:∀ x,Conc E (evO t x) (ρ x)):∀ o:Option Operand,ConcO E (o.map (evO t)) (o.map ρ)
 | none=>.none
 | some x=>.some _ _ (hρ x)
theorem notNil_spec {x v:AV} {u:Value} {st':St} (hs:notNil st x=some (v,st')) (hx:Conc E x u):st'=st∧Conc E v u ∧
  (u≠.pointer none∧u≠.nilIface∧u≠.nilFunc∧∀ n a b,u≠.func (.method n) a b):=by
 rw [notNil_eq] at hs
 split at hs
 ·cases hs; cases hx; exact ⟨rfl,.p _ _ _ (by assumption),by simp⟩
 ·cases hs; cases hx; exact ⟨rfl,.gp _,by simp⟩
 ·cases hs; cases hx; exact ⟨rfl,.rp _ _ _ _ (by assumption) (by assumption),by simp⟩
 ·rename_i g x y
  unfold fnOk at hs
  split at hs
  ·cases hs; exact ⟨rfl,hx,by cases hx; simp⟩
  ·cases hs; exact ⟨rfl,hx,by cases hx <;> simp⟩
  ·cases hs
 ·cases hs
theorem nilCheck_run {u:Value} (h:u≠.pointer none∧u≠.nilIface∧u≠.nilFunc∧∀ n a b,u≠.func (.method n) a b) {ρ:Operand→Value} {x:Operand} (hx:ρ x=u) {o:Oper} (ho:o.op = .nilCheck x):(execOp ρ o).run P w = .ok (.value u) w:=by
 obtain ⟨h1,h2,h3,h4⟩:=h
 unfold execOp
 rw [ho]
 simp only [hx]
 rfl
theorem bCopy_two {ts:List TypeId} {as:List AV} {r:AV × St} (h:bCopy P st ts as=some r):∃ d x,as=[d,x]:=by
 unfold bCopy at h
 split at h
 ·exact ⟨_,_,rfl⟩
 ·cases h
theorem bui_spec (h:Rel E w.heap st) {b:Builtin} {ts:Array TypeId} {as:List AV} {us:List Value} {v:AV} {st':St} (hb:bui b P st ts.toList as=some (v,st')) (hc:ConcL E as us) (hn:st'.next≤E.top) (ty:TypeId) (cs:Array Bool) :
  Gives E w st st' v ((builtin b ts ty cs us.toArray).run P w):=by
 have two:∀ {s:Sem Value} {z:Value} {E':Env} {w':World},s.run P w = .ok z w'→StepW E E' w w' st st'→Conc E' v z→Gives E w st st' v ((do pure (.value (← s)):Sem Next).run P w):=fun a b c=>gives_step a b c
 cases b <;> first | (cases hb; done) | skip
 case append =>
  simp only [bui,bAppend] at hb
  split at hb
  ·rename_i s x
   cases hc with | cons _ _ u us h1 t =>
   cases t with | cons _ _ u' us' h2 t' =>
   cases t'
   cases hx:natOf x with
   | none =>
    rw [hx] at hb
    obtain ⟨E',w',z,k1,k2,k3⟩:=appT_spec h hb h1 h2 hn ty
    exact two k1 k2 k3
   | some n =>
    rw [hx] at hb
    obtain ⟨k,rfl⟩:=natOf_some hx
    cases h2
    simp only [append0] at hb
    split at hb
    ·cases h1
     obtain ⟨E',w',z,k1,k2,k3⟩:=appendZ_spec (k:=k) h hb hn ty
     exact two k1 k2 k3
    ·cases hb
  ·cases hb
 case cap =>
  simp only [bui,bCap] at hb
  split at hb
  ·rename_i t r x hts
   split at hb
   ·rename_i e he
    cases hc with | cons _ _ u us h1 t =>
    cases t
    obtain ⟨rfl,z,k1,k2⟩:=cap_spec (w:=w) (r:=r) he hb h1 ty
    have:ts=(_ :: r).toArray:=Array.toList_inj.1 hts
    subst this
    exact two k1 (.refl h) k2
   ·cases hb
  ·cases hb
 case copy =>
  obtain ⟨d,x,rfl⟩:=bCopy_two hb
  cases hc with | cons _ _ u us h1 t =>
  cases t with | cons _ _ u' us' h2 t' =>
  cases t'
  obtain ⟨w',z,k1,k2,k3⟩:=copy_spec h hb h1 h2 ty
  exact two k1 k2 k3
 case delete =>
  simp only [bui,bDelete] at hb
  split at hb
  ·rename_i t r m k hts
   have:ts=(_ :: r).toArray:=Array.toList_inj.1 hts
   subst this
   unfold okTu at hb
   split at hb
   ·rename_i st1 hd
    cases hb
    cases hc with | cons _ _ u us h1 t =>
    cases t with | cons _ _ u' us' h2 t' =>
    cases t'
    obtain ⟨w',k1,k2⟩:=delete_spec h hd h1 h2 ty
    exact two k1 k2 (.tu [] [] .nil)
   ·cases hb
  ·cases hb
 case clear =>
  obtain ⟨x,rfl⟩:=bClear_one hb
  cases hc with | cons _ _ u us h1 t =>
  cases t
  obtain ⟨w',k1,k2,rfl⟩:=clear_spec h hb h1 ty
  exact two (by simpa using k1) k2 (.tu [] [] .nil)
 case len =>
  simp only [bui,bLen] at hb
  split at hb
  ·cases hc with | cons _ _ u us h1 t =>
   cases t
   obtain ⟨rfl,z,k1,k2⟩:=len_spec h hb h1 ty
   exact two (by simpa using k1) (.refl h) k2
  ·cases hb
 case max =>
  obtain ⟨rfl,z,k1,k2⟩:=max_spec (w:=w) (P:=P) (ts:=ts.toList) hb hc ts ty
  exact two k1 (.refl h) k2
 case min =>
  obtain ⟨rfl,z,k1,k2⟩:=min_spec (w:=w) (P:=P) (ts:=ts.toList) hb hc ts ty
  exact two k1 (.refl h) k2
 case unsafeSliceData =>
  obtain ⟨z,k1,hst,k2⟩:=sliceData_spec (P:=P) (ts:=ts.toList) h hb hc ts ty
  subst hst
  exact two k1 (.refl h) k2
 case unsafeString =>
  have hb:bUnsafeStr P st ts.toList as=some (v,st'):=hb
  unfold bUnsafeStr at hb
  split at hb
  ·rename_i pt it p n hts hb0
   have:ts = #[pt,it]:=Array.toList_inj.1 hts
   subst this
   cases hc with | cons _ _ u us h1 t =>
   cases t with | cons _ _ u' us' h2 t' =>
   cases t'
   cases h2
   obtain ⟨z,w',k1,k2,k3⟩:=unsafeStr_spec (it:=it) h hb h1 ty
   exact two k1 k2 k3
  ·cases hb
theorem mapArr {α β:Type} (f:α→β) (a:Array α):(a.toList.map f).toArray=a.map f:=by rw [← Array.toList_map]
theorem op_spec (h:Rel E w.heap st) {S:Self} {t:Tr AV} {ρ:Operand→Value} (hρ:∀ x,Conc E (evO t x) (ρ x)) {o:Oper} {v:AV} {st':St} (ho:evOp P S t st o=some (v,st')) (hn:st'.next≤E.top)
  (hc:goCall o.op=false):Gives E w st st' v ((execOp ρ o).run P w):=by
 have nop:∀ {r:AV × St},opNone P S t st=some r→False:=fun h=>by cases h
 unfold evOp at ho
 cases hop:o.op <;> rw [hop] at ho hc <;> first | exact (nop ho).elim | (cases hc; done) | skip
 case move x =>
  cases ho
  simp only [execOp,hop]
  exact ⟨E,w,ρ x,.inl rfl,.refl h,hρ x⟩
 case assign x =>
  cases ho
  simp only [execOp,hop]
  exact ⟨E,w,ρ x,.inl rfl,.refl h,hρ x⟩
 case pick c a b =>
  have ho:pickB (evO t a) (evO t b) st (evO t c).asB=some (v,st'):=ho
  cases hb:(evO t c).asB with
  | none=>rw [hb] at ho; cases ho
  | some bb =>
   rw [hb] at ho
   have hr:=asBool_run (P:=P) (w:=w) hb (hρ c)
   simp only [execOp,hop]
   cases bb with
   | true =>
    cases ho
    exact ⟨E,w,ρ a,.inl (by rw [Sem.run_bind,hr]; rfl),.refl h,hρ a⟩
   | false =>
    cases ho
    exact ⟨E,w,ρ b,.inl (by rw [Sem.run_bind,hr]; rfl),.refl h,hρ b⟩
 case alloc e =>
  have ho:allocC st (zeroC P e)=some (v,st'):=ho
  cases hz:zeroC P e with
  | none=>rw [hz] at ho; cases ho
  | some l =>
   obtain ⟨z,g1,g2,g3,g4⟩:=zeroC_spec (E:=E) hz
   obtain ⟨E',w',a,k1,k2,k3⟩:=allocC_spec (P:=P) h ho hn (us:=z.cells) e (fun l' e=>by rw [hz] at e; cases e; exact g2)
   simp only [execOp,hop]
   refine gives_step (z:=.pointer (some a)) ?_ k2 k3
   simp only [Instr.alloc,newVar,Sem.run_bind,g1,Result.andThen_ok,k1,Sem.run_pure]
 case box e x =>
  have ho:allocC st (evO t x).cells=some (v,st'):=ho
  obtain ⟨E',w',a,k1,k2,k3⟩:=allocC_spec (P:=P) h ho hn (us:=(ρ x).cells) e (fun l' e=>cells_conc (hρ x) e)
  simp only [execOp,hop]
  refine gives_step (z:=.pointer (some a)) ?_ k2 k3
  simp only [Instr.box,newVar,Sem.run_bind,Result.andThen_ok,k1,Sem.run_pure]
 case build ty parts =>
  obtain ⟨rfl,z,k1,k2⟩:=build_spec (S:=S) (w:=w) hρ ho
  simp only [execOp,hop]
  exact gives_val h k1 k2
 case buildSlice ty len parts =>
  obtain ⟨E',w',z,k1,k2,k3⟩:=buildSlice_spec (S:=S) h hρ ho hn
  simp only [execOp,hop]
  exact gives_step k1 k2 k3
 case insert ty m k x =>
  obtain ⟨hd,rfl⟩:=done_spec ho
  obtain ⟨w',k1,k2⟩:=mapUpdate_spec h hd (hρ m) (hρ k) (hρ x)
  simp only [execOp,hop]
  exact gives_unit k1 k2
 case mapEntry ty m k =>
  obtain ⟨w',z,k1,k2,k3⟩:=mapEntry_spec h ho (hρ m) (hρ k)
  simp only [execOp,hop]
  exact gives_step k1 k2 k3
 case entryStore ty m s x =>
  obtain ⟨hd,rfl⟩:=done_spec ho
  obtain ⟨w',k1,k2⟩:=entryStore_spec h hd (hρ m) (hρ s) (hρ x)
  simp only [execOp,hop]
  exact gives_unit k1 k2
 case mapUpdate ty m k x =>
  obtain ⟨hd,rfl⟩:=done_spec ho
  obtain ⟨w',k1,k2⟩:=mapUpdate_spec h hd (hρ m) (hρ k) (hρ x)
  simp only [execOp,hop]
  exact gives_unit k1 k2
 case load ty a =>
  obtain ⟨hd,rfl⟩:=give_spec ho
  obtain ⟨z,k1,k2⟩:=loadAt_spec h hd (hρ a)
  simp only [execOp,hop]
  exact gives_val h k1 k2
 case store ty a x =>
  obtain ⟨hd,rfl⟩:=done_spec ho
  obtain ⟨w',k1,k2⟩:=storeAt_spec h hd (hρ a) (hρ x)
  simp only [execOp,hop]
  exact gives_unit k1 k2
 case nilCheck x =>
  obtain ⟨rfl,k2,k3⟩:=notNil_spec ho (hρ x)
  exact ⟨E,w,ρ x,.inl (nilCheck_run k3 rfl hop),.refl h,k2⟩
 case binOp op ty x y ty' =>
  obtain ⟨hd,rfl⟩:=give_spec ho
  obtain ⟨z,k1,k2⟩:=binOp_spec (w:=w) hd (hρ x) (hρ y)
  simp only [execOp,hop]
  exact gives_val h k1 k2
 case unOp op ty x =>
  obtain ⟨hd,rfl⟩:=give_spec ho
  obtain ⟨z,k1,k2⟩:=unOp_spec (w:=w) hd (hρ x)
  simp only [execOp,hop]
  exact gives_val h k1 k2
 case convert src dst x =>
  obtain ⟨E',w',z,k1,k2,k3⟩:=conv_spec h ho (hρ x) hn
  simp only [execOp,hop]
  exact gives_step k1 k2 k3
 case makeChan ty x =>
  have ho:opMakeChan ty x P S t st=some (v,st'):=ho
  unfold opMakeChan at ho
  split at ho
  case h_2=>cases ho
  rename_i e n he hs
  obtain ⟨hcond,ho⟩:=brec ho
  cases ho
  simp only [Bool.and_eq_true] at hcond
  obtain ⟨hi,hn1,hn2⟩:=hcond
  have hn1':n≤1073741824:=Nat.le_of_ble_eq_true hn1
  have hn2':byOf P e≤1024:=Nat.le_of_ble_eq_true hn2
  obtain ⟨kk,hsv⟩:=natOf_spec hs (hρ x)
  have hu:∃ dd,P.underlying ty=some (.chan dd e):=by
   unfold elChan at he
   split at he
   ·rename_i dd e' hu; cases he; exact ⟨dd,hu⟩
   ·cases he
  obtain ⟨dd,hu⟩:=hu
  obtain ⟨i,dsc,hinfo,hdsc⟩:=info_of hi
  have hby:byOf P e=i.bytes:=by simp [byOf,hinfo]
  have hs':=newRow_gives h (show st.next+1≤E.top from hn) (.chan n #[] false 0 0 false) (.ch n []) (fun _ _ e=>by cases e) (fun F _=>⟨0,0,[],Array.getElem?_push_size,.nil⟩)
  simp only [execOp,hop]
  refine gives_step (z:=.chan (some w.heap.size)) (w':={ w with heap:=w.heap.push (.chan n #[] false 0 0 false) }) ?_ hs' (.c _ _ Env.bind_self)
  have hai:∀ w:World,(asInt (.int kk (Int.ofNat n))).run P w = .ok (Int.ofNat n) w:=fun w=>rfl
  have hmul:(i.bytes:Int) * (n:Int)≤1099511627776:=by
   have:i.bytes * n≤1024 * 1073741824:=Nat.mul_le_mul (by omega) hn1'
   rw [← Int.natCast_mul]
   omega
  have hmax:¬ ((Int.ofNat n) < 0∨(Int.ofNat n) > IntKind.i64.max∨i.bytes * (Int.ofNat n) > 2 ^ 48 - 112):=by
   have e1:(IntKind.i64.max:Int)=9223372036854775807:=by decide
   have e3:(Int.ofNat n)=(n:Int):=rfl
   rw [e1,e3]
   have e4:(2:Int) ^ 48 - 112=281474976710544:=by decide
   rw [e4]
   omega
  rw [hsv]
  simp only [Instr.makeChan,Sem.run_bind,hai,Result.andThen_ok,run_under hu,run_typeInfo' hinfo,if_neg hmax,run_newObj,Sem.run_pure]
  rfl
 case makeInterface xt x =>
  have ho:opMakeInterface xt x P S t st=some (v,st'):=ho
  unfold opMakeInterface at ho
  split at ho
  ·cases ho
  ·rename_i d hnd hu
   cases ho
   simp only [execOp,hop]
   refine gives_val (z:=.iface xt (ρ x)) h ?_ (.ifc _ _ _ (hρ x))
   simp only [Instr.makeInterface,Sem.run_bind,run_under hu,Result.andThen_ok]
   try rfl
  ·cases ho
 case makeFunc fn a b =>
  obtain ⟨hf,ho⟩:=bor ho
  cases ho
  simp only [execOp,hop]
  refine gives_val (z:=.func fn (a.map ρ) (b.map ρ)) h rfl ?_
  have:=Conc.f (E:=E) fn _ _ _ _ hf (args_conc hρ a.toList) (args_conc hρ b.toList)
  rwa [mapArr,mapArr] at this
 case makeMap ty r =>
  have ho:opMakeMap r P S t st=some (v,st'):=ho
  unfold opMakeMap at ho
  cases r with
  | some _=>cases ho
  | none =>
   cases ho
   simp only [execOp,hop]
   have hs:=newRow_gives h (show st.next+1≤E.top from hn) (.map #[] 0) (.mp [] 0) (fun _ _ e=>by cases e) (fun F _=>⟨#[],by simp,trivial⟩)
   refine gives_step (z:=.map (some w.heap.size)) (w':={ w with heap:=w.heap.push (.map #[] 0) }) ?_ hs (.m _ _ Env.bind_self)
   simp only [Instr.makeMap,Option.map_none,Sem.run_bind,run_newObj,Result.andThen_ok,Sem.run_pure]
 case makeSlice ty l c =>
  obtain ⟨E',w',z,k1,k2,k3⟩:=makeSlice_spec (S:=S) h hρ ho hn
  simp only [execOp,hop]
  exact gives_step k1 k2 k3
 case slice ty x lo hi mx =>
  obtain ⟨hd,rfl⟩:=give_spec ho
  obtain ⟨z,k1,k2⟩:=sliceR_spec h hd (hρ x) (concO hρ lo) (concO hρ hi) (concO hρ mx)
  simp only [execOp,hop]
  exact gives_val h k1 k2
 case fieldAddr s x n =>
  have ho:opFieldAddr s x n P S t st=some (v,st'):=ho
  unfold opFieldAddr at ho
  split at ho
  ·rename_i o' ho'
   obtain ⟨rfl,z,k1,k2⟩:=fieldAt_spec (w:=w) ho' ho (hρ x)
   simp only [execOp,hop]
   exact gives_val h k1 k2
  ·cases ho
 case field s x n =>
  obtain ⟨rfl,z,k1,k2⟩:=field_spec (S:=S) (w:=w) hρ ho
  simp only [execOp,hop]
  exact gives_val h k1 k2
 case indexAddr ty x ix =>
  obtain ⟨hd,rfl⟩:=give_spec ho
  obtain ⟨z,k1,k2⟩:=indexAddr_spec (w:=w) hd (hρ x) (hρ ix)
  simp only [execOp,hop]
  exact gives_val h k1 k2
 case index ty x ix =>
  obtain ⟨hd,rfl⟩:=give_spec ho
  obtain ⟨z,k1,k2⟩:=index_spec (w:=w) hd (hρ x) (hρ ix)
  simp only [execOp,hop]
  exact gives_val h k1 k2
 case lookup ty x ix ok =>
  obtain ⟨hd,rfl⟩:=give_spec ho
  obtain ⟨z,k1,k2⟩:=lookup_spec h hd (hρ x) (hρ ix)
  simp only [execOp,hop]
  exact gives_val h k1 k2
 case range ty x =>
  obtain ⟨E',w',z,k1,k2,k3⟩:=rangeOf_spec h ho (hρ x) hn
  simp only [execOp,hop]
  exact gives_step k1 k2 k3
 case next it isS =>
  obtain ⟨w',z,k1,k2,k3⟩:=nextOf_spec h ho (hρ it) o.type
  simp only [execOp,hop]
  exact gives_step k1 k2 k3
 case entry it =>
  obtain ⟨rfl,z,k1,k2⟩:=entryOf_spec (P:=P) h ho (hρ it)
  simp only [execOp,hop]
  exact gives_val h k1 k2
 case typeAssert x xt as ok =>
  obtain ⟨rfl,z,k1,k2⟩:=assertOf_spec (w:=w) (xt:=xt) ho (hρ x)
  simp only [execOp,hop]
  exact gives_val h k1 k2
 case extract x n =>
  obtain ⟨rfl,z,k1,k2⟩:=nth_spec (P:=P) (w:=w) ho (hρ x)
  simp only [execOp,hop]
  exact gives_val h k1 k2
 case call c =>
  have ho:opCall c P S t st=some (v,st'):=ho
  unfold opCall at ho
  cases hcc:c.callee <;> rw [hcc] at ho <;> first | (simp only [goCall,hcc] at hc; cases hc; done) | skip
  rename_i b
  simp only [execOp,hop,resolve,hcc,invoke]
  have:=bui_spec h (us:=c.args.toList.map ρ) ho (args_conc hρ c.args.toList) hn o.type (c.args.map fun | .const _=>true | _=>false)
  rw [mapArr] at this
  exact this
end
end
end Go.Ev
namespace Go.Ev
noncomputable section
section
variable {P : Program} {b : Frame} {a : Act} {k : List Item} {cs : List Frame} {w w' : World} {ops : Array Oper} {i : Nat} {rest : List Nat} {o : Oper}
theorem step_value (ho:ops[i]? = some o) (hw:Region.wanted o (yielded ops a.tmps)=true) (hd:∀ c,o.op≠.defer c) {v:Value} (hr:(execOp a.eval o).run P w = .ok (.value v) w') :
  step P (lone (b.atR a (.inRegion ops (i :: rest) :: k)) cs w) = .next (lone (b.atR (a.put o.dst v) (.inRegion ops rest :: k)) cs w'):=by
 have hf:=Frame.finish_atR b a ops i rest k v
 rw [ho] at hf
 simp only [Option.bind_some] at hf
 rw [← hf]
 refine step_lone_go ?_
 rw [stepGR_op ho hw,Oper.semAt_eq _ _ _ hd]
 simp [stepG.apply,Sem.runT_eq,hr]
theorem step_skipped (ho:ops[i]? = some o) (hw:Region.wanted o (yielded ops a.tmps)=true) (hd:∀ c,o.op≠.defer c) (hr:(execOp a.eval o).run P w = .ok .skip w') :
  step P (lone (b.atR a (.inRegion ops (i :: rest) :: k)) cs w) = .next (lone (b.atR (a.put o.dst undef) (.inRegion ops rest :: k)) cs w'):=by
 have hf:=Frame.finish_atR b a ops i rest k undef
 rw [ho] at hf
 simp only [Option.bind_some] at hf
 rw [← hf]
 refine step_lone_go ?_
 rw [stepGR_op ho hw,Oper.semAt_eq _ _ _ hd]
 simp [stepG.apply,Sem.runT_eq,hr]
theorem step_enter (ho:ops[i]? = some o) (hw:Region.wanted o (yielded ops a.tmps)=true) (hd:∀ c,o.op≠.defer c) {f:FuncId} {args:Array Value} (hr:(execOp a.eval o).run P w = .ok (.enter f args) w') :
  step P (lone (b.atR a (.inRegion ops (i :: rest) :: k)) cs w) = .next (lone (Frame.enter P f args .normal) (b.atR a (.inRegion ops (i :: rest) :: k) :: cs) w'):=by
 refine step_lone_go ?_
 rw [stepGR_op ho hw,Oper.semAt_eq _ _ _ hd]
 simp [stepG.apply,Sem.runT_eq,hr,Frame.atR]
theorem stepG_comm (ho:ops[i]? = some o) (hw:Region.wanted o (yielded ops a.tmps)=true) (hd:∀ c,o.op≠.defer c) {cases:Array CommCase} {bl:Bool} {sh:CommShape} (hr:(execOp a.eval o).run P w = .ok (.comm cases bl sh) w') :
  ∃ es,stepG P true (_root_.Go.Conc.G (b.atR a (.inRegion ops (i :: rest) :: k)) cs) w = .comm (_root_.Go.Conc.G (b.atR a (.inRegion ops (i :: rest) :: k)) cs) cases bl sh w' es:=by
 have h:=stepGR_op (P:=P) (b:=b) (a:=a) (k:=k) (cs:=cs) (w:=w) (rest:=rest) ho hw
 rw [Oper.semAt_eq _ _ _ hd] at h
 have e:_root_.Go.Conc.G (b.atR a (.inRegion ops (i :: rest) :: k)) cs = { frame:=b.atR a (.inRegion ops (i :: rest) :: k),callers:=cs,status:=.running,dying:=none }:=rfl
 rw [e,h]
 simp only [stepG.apply,Sem.runT_eq,hr,if_true]
 exact ⟨_,rfl⟩
theorem step_round (ho:ops[i]? = some o) (hw:Region.wanted o (yielded ops a.tmps)=true) (hd:∀ c,o.op≠.defer c) {l:Nat} {f:FuncId} {tmps:Array Value} {x y:Code} (hr:(execOp a.eval o).run P w = .ok (.round l f tmps x y) w') :
  step P (lone (b.atR a (.inRegion ops (i :: rest) :: k)) cs w) = .next (lone (Frame.round l f tmps x y .normal) (b.atR a (.inRegion ops (i :: rest) :: k) :: cs) w'):=by
 refine step_lone_go ?_
 rw [stepGR_op ho hw,Oper.semAt_eq _ _ _ hd]
 simp [stepG.apply,Sem.runT_eq,hr,Frame.atR]
end
end
end Go.Ev
namespace Go.Ev
noncomputable section
def CallsK (P:Program) (kind:CallKind) (f:FuncId) (args:Array Value) (w w':World) (v:Value):Prop :=
 ∀ cs,∃ fr,Steps P (lone (Frame.enter P f args kind) cs w) (lone fr cs w')∧fr.fn=f∧fr.kind=kind∧fr.going P w' (.returned v)
def CallsTo (P:Program) (f:FuncId) (args:Array Value) (w w':World) (v:Value):Prop :=
 ∀ cs,∃ fr,Steps P (lone (Frame.enter P f args .normal) cs w) (lone fr cs w')∧fr.fn=f∧fr.leaving P w' (.returned v)
theorem CallsK.to {P:Program} {f:FuncId} {args:Array Value} {w w':World} {v:Value} (h:CallsK P .normal f args w w' v):CallsTo P f args w w' v:=by
 intro cs
 obtain ⟨fr,h1,h2,h3,h4,h5,h6⟩:=h cs
 exact ⟨fr,h1,h2,h4,h5,h3,h6⟩
def Marks0 (n0:Nat) (E:Env) (H:Array Obj) (st:St) (ds:List Deferred):Prop :=
 ds.Pairwise (·≠·)∧∀ d ∈ ds,∃ r,n0≤r∧d = { target:=.collected r,args:=#[] }∧H[r]? = some (.deferred (some []))∧Un E st r
theorem Marks0.step {n0:Nat} {E E':Env} {H H':Array Obj} {st st':St} {ds:List Deferred} (h:Marks0 n0 E H st ds) (hs:Step E E' H H' st st'):Marks0 n0 E' H' st' ds:=by
 refine ⟨h.1,fun d hd=>?_⟩
 obtain ⟨r,h0,rfl,hr,hn⟩:=h.2 d hd
 have hlt:r < H.size:=(Array.getElem?_eq_some_iff.1 hr).1
 exact ⟨r,h0,rfl,by rw [hs.fr.keep r hlt hn.1]; exact hr,hs.un hlt hn⟩
def Marks (n0:Nat) (D:List Deferred) (E:Env) (H:Array Obj) (st:St) (ds:List Deferred):Prop :=
 ∃ ms,ds=ms++D∧Marks0 n0 E H st ms
theorem Marks.step {n0:Nat} {D:List Deferred} {E E':Env} {H H':Array Obj} {st st':St} {ds:List Deferred} (h:Marks n0 D E H st ds) (hs:Step E E' H H' st st'):Marks n0 D E' H' st' ds:=by
 obtain ⟨ms,h1,h2⟩:=h
 exact ⟨ms,h1,h2.step hs⟩
theorem Marks.nil {n0:Nat} {D:List Deferred} {E:Env} {H:Array Obj} {st:St}:Marks n0 D E H st D:=⟨[],rfl,List.Pairwise.nil,fun _ h=>by cases h⟩
def Arr (P:Program) (n0:Nat) (E:Env) (nt:Nat) (b:Frame) (w:World) (st:St) (m:List Frame→Machine) (k:List Item):Out→Prop
 | .nx t st'=>∃ E' a' w',StepW E E' w w' st st'∧ConcT E' nt t a'.tmps∧Marks n0 b.defers E' w'.heap st' a'.defers∧∀ cs,Steps P (m cs) (lone (b.atR a' k) cs w')
 | .ex id t st'=>∃ E' a' w',StepW E E' w w' st st'∧ConcT E' nt t a'.tmps∧Marks n0 b.defers E' w'.heap st' a'.defers∧∀ k',exitTo id k=some k'→∀ cs,Steps P (m cs) (lone (b.atR a' k') cs w')
 | .rt t st'=>b.roundOf=none→∃ E' a' w' todo,StepW E E' w w' st st'∧ConcT E' nt t a'.tmps∧Marks n0 b.defers E' w'.heap st' a'.defers∧∀ cs,Steps P (m cs) (lone { b.atR a' todo with mode:=.returning } cs w')
 | .no=>True
def NoNG (P:Program):Prop:=∀ (f:Nat) (fn:Func),P.funcs[f]? = some fn→(fn.name == "runtime.NumGoroutine")=false
end
end Go.Ev
namespace Go.Ev
noncomputable section
section
variable {E : Env} {nt : Nat} {t : Tr AV} {a : Act} {ops : Array Oper}
theorem guard_spec (h:ConcT E nt t a.tmps) {o:Oper} {r:Bool} (hg:guardOk ops t o=some r):Region.wanted o (yielded ops a.tmps)=r:=by
 unfold guardOk at hg
 unfold Region.wanted
 split at hg
 ·rename_i ho
  cases hg; rw [ho]
 ·rename_i j want ho
  rw [ho]
  simp only
  unfold guardBy at hg
  split at hg
  ·rename_i g hj
   split at hg
   ·rename_i d hd
    have hc:=h.2 d
    unfold yielded
    rw [hj]
    simp only [Option.bind_some,hd]
    unfold tget at hc
    have hget:∀ v:Value,a.tmps.getD d undef=v→v≠undef→a.tmps[d]? = some v:=by
     intro v e hv
     rw [Array.getD_eq_getD_getElem?] at e
     cases hx:a.tmps[d]? with
     | none=>rw [hx] at e; simp at e; exact absurd e.symm hv
     | some y=>rw [hx] at e; simp at e; rw [e]
    have hund:a.tmps.getD d undef=undef→∀ y,a.tmps[d]? = some y→y=undef:=by
     intro e y hx
     rw [Array.getD_eq_getD_getElem?,hx] at e
     simpa using e
    cases ht:t.get d with
    | none =>
     rw [ht] at hg hc
     cases hg
     generalize hv:a.tmps.getD d undef=v at hc
     cases hc
     cases hy:a.tmps[d]? with
     | none=>simp
     | some y=>have:=hund hv y hy; subst this; simp [undef]
    | some x =>
     rw [ht] at hg hc
     simp only at hc
     unfold guardV at hg
     simp only at hg
     cases hb:x.asB with
     | some bb =>
      rw [hb] at hg
      simp only [Option.some.injEq] at hg
      have:=AV.asB_some hb; subst this
      generalize hv:a.tmps.getD d undef=v at hc
      cases hc
      rw [hget _ hv (by simp [undef])]
      simp [← hg]
     | none =>
      rw [hb] at hg
      cases hu:x.isUn with
      | false=>rw [hu] at hg; cases hg
      | true =>
       rw [hu] at hg; cases hg
       have:=AV.isUn_true hu; subst this
       generalize hv:a.tmps.getD d undef=v at hc
       cases hc
       cases hy:a.tmps[d]? with
       | none=>simp
       | some y=>have:=hund hv y hy; subst this; simp [undef]
   ·cases hg
  ·cases hg
theorem put_spec (h:ConcT E nt t a.tmps) {d:Option Tmp} {v:AV} {t':Tr AV} (hp:putT nt t d v=some t') {z:Value} (hc:Conc E v z):ConcT E nt t' (a.put d z).tmps:=by
 cases d with
 | none=>cases hp; exact h
 | some d =>
  unfold putT at hp
  obtain ⟨hlt,hp⟩:=brec hp
  rw [AV.seen_eq] at hp
  cases hp
  have hlt':d < nt:=by simpa [Nat.blt_eq] using hlt
  refine ⟨by simpa [Act.put] using h.1,fun x=>?_⟩
  unfold tget
  rw [Tr.get_set]
  simp only [Act.put,Array.getD_eq_getD_getElem?]
  by_cases e:x=d
  ·subst e
   rw [if_pos rfl,Array.getElem?_setIfInBounds_self]
   have:x < a.tmps.size:=by rw [h.1]; exact hlt'
   simpa [this] using hc
  ·rw [if_neg e,Array.getElem?_setIfInBounds_ne (Ne.symm e)]
   have:=h.2 x
   unfold tget at this
   rwa [Array.getD_eq_getD_getElem?] at this
end
end
end Go.Ev
