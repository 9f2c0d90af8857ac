/-
  Rows' numbers only grow: operations. · Strings made out of a slice's bytes, as they lie there.
-/
import Derived.Test.YtbemeikjepjhoaaGreatDoorS03
import Derived.Test.YtbemeikjepjhoaaGreatDoorS10
import Derived.Lib.UnsafeStr
namespace Go.Ev
noncomputable section
def Up (st:St) (r:Res):Prop:=∀ v st',r=some (v,st')→st.next≤st'.next
def UpS (st:St) (r:Option St):Prop:=∀ st',r=some st'→st.next≤st'.next
section
variable {st : St}
theorem up_none:Up st none:=fun _ _ h=>by cases h
theorem up_same {v:AV}:Up st (some (v,st)):=fun _ _ h=>by cases h; exact Nat.le_refl _
theorem up_new {v:AV} {row:Row}:Up st (some (v,st.new row)):=fun _ _ h=>by cases h; exact Nat.le_succ _
theorem up_newCe {v:AV} {l:List AV}:Up st (some (v,st.newCe l)):=fun _ _ h=>by cases h; exact Nat.le_succ _
theorem up_put {v:AV} {r:Nat} {row:Row}:Up st (some (v,st.put r row)):=fun _ _ h=>by cases h; exact Nat.le_refl _
theorem up_rec {b:Bool} {x y:Res} (hx:Up st x) (hy:Up st y):Up st (@Bool.rec (fun _=>Res) x y b):=by cases b <;> assumption
theorem up_rec' {b:Bool} {x y:Res} (hx:Up st x) (hy:Up st y):Up st (@Bool.rec (fun _=>Option (AV × St)) x y b):=by cases b <;> assumption
theorem up_cond {b:Bool} {x y:Res} (hx:Up st x) (hy:Up st y):Up st (cond b x y):=by cases b <;> assumption
theorem up_give {o:Option AV}:Up st (give st o):=by cases o; exact up_none; exact up_same
theorem up_done {o:Option St} (h:UpS st o):Up st (done o):=by
 cases o with
 | none=>exact up_none
 | some x=>intro v st' e; cases e; exact h _ rfl
theorem ups_none:UpS st none:=fun _ h=>by cases h
theorem ups_same:UpS st (some st):=fun _ h=>by cases h; exact Nat.le_refl _
theorem ups_put {r:Nat} {row:Row}:UpS st (some (st.put r row)):=fun _ h=>by cases h; exact Nat.le_refl _
theorem ups_rec {b:Bool} {x y:Option St} (hx:UpS st x) (hy:UpS st y):UpS st (@Bool.rec (fun _=>Option St) x y b):=by cases b <;> assumption
theorem ups_wt {r o:Nat} {l:List AV}:UpS st (wt st r o l):=by
 unfold wt
 split
 ·refine ups_rec ups_none ?_
  intro st' h; cases h; exact Nat.le_refl _
 ·exact ups_none
theorem up_int64 {n:Option Nat}:Up st (int64 st n):=by cases n; exact up_none; exact up_same
theorem up_allocC {l:Option (List AV)}:Up st (allocC st l):=by cases l; exact up_none; exact up_newCe
theorem ups_storeAt {P:Program} {t:TypeId} {a v:AV}:UpS st (storeAt P t st a v):=by
 unfold storeAt storeC
 repeat' (first | exact ups_none | exact ups_wt | apply ups_rec | split)
theorem ups_mapUpdate {P:Program} {t:TypeId} {x k v:AV}:UpS st (mapUpdate P t st x k v):=by
 unfold mapUpdate
 repeat' (first | exact ups_none | exact ups_put | exact ups_same | apply ups_rec | split)
theorem ups_delete {P:Program} {t:TypeId} {x k:AV}:UpS st (delete P t st x k):=by
 unfold delete
 repeat' (first | exact ups_none | exact ups_put | exact ups_same | apply ups_rec | split)
theorem up_grow {z n:Nat} {l:List AV}:Up st (some (grow st z n l)):=up_newCe
theorem up_growRow {r o len z n:Nat} {l:List AV}:Up st (growRow st r o len z n l):=by
 unfold growRow
 repeat' (first | exact up_none | split)
 intro v st' h; cases h; exact Nat.le_succ _
theorem up_wt {v:AV} {r o:Nat} {l:List AV}:Up st (match wt st r o l with | some st=>some (v,st) | none=>none):=by
 split
 ·rename_i s h; intro v st' e; cases e; exact ups_wt _ h
 ·exact up_none
theorem up_append {P:Program} {ts:List TypeId} {s x:AV}:Up st (append P st ts s x):=by
 unfold append
 repeat' (first | exact up_none | exact up_same | exact up_grow | exact up_growRow | exact up_wt | apply up_rec | apply up_rec' | split)
theorem up_appT {P:Program} {ts:List TypeId} {s:AV} {r:Res} (h:Up st r):Up st (appT P st ts s r):=by
 unfold appT
 split
 ·unfold addTyS
  split
  ·rename_i r o n z c st1
   have h1:st.next≤st1.next:=h _ _ rfl
   refine up_rec (fun v s e=>by cases e; exact h1) (fun v s e=>by cases e; exact Nat.le_succ_of_le h1)
  ·exact h
 ·exact h
theorem up_append0 {P:Program} {ts:List TypeId} {s x:AV} {n:Option Nat}:Up st (append0 P st ts s x n):=by
 unfold append0
 split
 ·split
  ·unfold appendZ appendZ2 appendZ1
   repeat' (first | exact up_none | exact up_same | exact up_newCe | apply up_rec | apply up_rec' | split)
  ·exact up_none
 ·exact up_appT up_append
theorem up_kill {v:AV} {r:Nat}:Up st (some (v,st.kill r)):=by
 intro v' s e
 cases e
 unfold St.kill
 split <;> exact Nat.le_refl _
theorem up_unsafeStr {P:Program} {pt n:Nat} {v:AV}:Up st (unsafeStr0 P st pt n v):=by
 unfold unsafeStr0 unsafeStr strKill
 repeat' (first | exact up_none | exact up_same | exact up_kill | apply up_rec | apply up_rec' | split)
theorem up_strOf {o:Option (List AV)}:Up st (strOf st o):=by
 unfold strOf
 repeat' (first | exact up_none | exact up_same | split)
theorem up_lenChan {v:AV}:Up st (lenChan st v):=by
 unfold lenChan
 repeat' (first | exact up_same | exact up_none | split)
theorem up_bui {P:Program} {b:Builtin} {ts:List TypeId} {as:List AV}:Up st (bui b P st ts as):=by
 unfold bui
 split
 ·unfold bAppend; split; exact up_append0; exact up_none
 ·unfold bLen bLen1 lenMap
  repeat' (first | exact up_none | exact up_same | exact up_lenChan | exact up_int64 | apply up_rec | apply up_rec' | split)
 ·unfold bCap capV
  repeat' (first | exact up_none | exact up_same | exact up_int64 | apply up_rec | apply up_rec' | split)
 ·unfold bCopy copyV copyTo
  repeat' (first | exact up_none | exact up_same | exact up_wt | apply up_rec | apply up_rec' | split)
 ·unfold bDelete okTu
  split
  ·split
   ·rename_i h; intro v st' e; cases e; exact ups_delete _ h
   ·exact up_none
  ·exact up_none
 ·unfold bClear clearV clearTo okTu
  split
  ·split
   ·split
    ·apply up_rec
     ·split
      ·split
       ·rename_i h; intro v st' e; cases e; exact ups_wt _ h
       ·exact up_none
      ·exact up_none
     ·exact up_same
    ·exact up_same
    ·exact up_none
   ·exact up_none
  ·exact up_none
 ·unfold bMax; split; exact up_same; exact up_none
 ·unfold bMin; split; exact up_same; exact up_none
 ·unfold bSliceData
  repeat' (first | exact up_none | exact up_same | apply up_rec | apply up_rec' | split)
 ·unfold bUnsafeStr
  split
  ·exact up_unsafeStr
  ·exact up_none
 ·exact up_none
structure SelfUp (S:Self):Prop where
 call:∀ f as st,Up st (S.call f as st)
 code:∀ nt c t st,(∀ t' st',S.code nt c t st = .nx t' st'→st.next≤st'.next)∧(∀ i t' st',S.code nt c t st = .ex i t' st'→st.next≤st'.next)∧(∀ t' st',S.code nt c t st = .rt t' st'→st.next≤st'.next)
 dcall:∀ f as st,Up st (S.dcall f as st)
theorem up_callF0 {P:Program} {S:Self} (hS:SelfUp S) {f:FuncId} {as:List AV}:Up st (callF0 P S f as st):=by
 unfold callF0 callB
 repeat' (first | exact up_none | exact hS.call _ _ _ | split)
theorem up_extB {P:Program} {fn:Func} {as:List AV}:Up st (extB P fn st as):=by
 unfold extB
 refine up_rec ?_ ?_
 ·unfold extB2
  refine up_rec ?_ ?_
  ·unfold extB3
   refine up_rec up_none ?_
   unfold extBytes
   split
   ·split
    ·unfold extBytes1
     split
     ·unfold extBytes2
      refine up_rec up_none ?_
      intro v s e
      cases e
      exact Nat.le_trans (Nat.le_succ _) (Nat.le_succ _)
     ·exact up_none
    ·exact up_none
   ·exact up_none
  ·unfold extSame
   split
   ·exact up_same
   ·exact up_none
 unfold extIndexByte
 split
 ·refine up_rec up_none ?_
  unfold extIndex
  split <;> exact up_same
 ·exact up_none
theorem up_callF {P:Program} {S:Self} (hS:SelfUp S) {f:FuncId} {as:List AV}:Up st (callF P S f as st):=by
 unfold callF callX
 repeat' (first | exact up_none | exact hS.call _ _ _ | exact up_extB | split)
theorem up_round {S:Self} (hS:SelfUp S) {l:Nat} {as:List AV}:Up st (round S l as st):=by
 unfold round
 split
 ·rename_i t nt ps a b hg
  split
  ·rename_i t' ht
   intro v st' h
   unfold roundBody at h
   split at h
   ·rename_i t1 st1 h1
    unfold roundEnd at h
    split at h
    ·rename_i t2 st2 h2
     cases h
     have e1:=(hS.code nt a t' (st.drop l)).1 _ _ h1
     have e2:=(hS.code nt b t1 st1).1 _ _ h2
     have e0:(st.drop l).next=st.next:=rfl
     have e3:(st2.put l (.lp t nt ps a b)).next=st2.next:=rfl
     omega
    ·cases h
   ·cases h
  ·exact up_none
 ·exact up_none
theorem up_op {P:Program} {S:Self} (hS:SelfUp S) {t:Tr AV} {o:Oper}:Up st (evOp P S t st o):=by
 have nop:Up st (opNone P S t st):=up_none
 unfold evOp
 cases hop:o.op <;> first | exact nop | skip
 case move x=>exact up_same
 case assign x=>exact up_same
 case pick c a b =>
  show Up st (pickB (evO t a) (evO t b) st (evO t c).asB)
  unfold pickB
  repeat' (first | exact up_none | exact up_same | split)
 case alloc e=>exact up_allocC
 case box e x=>exact up_allocC
 case build ty parts =>
  show Up st (@Bool.rec (fun _=>Res) none (opBuild1 P ty (vals t parts.toList) st) (wfTy P ty))
  unfold opBuild1 fillAg agSt
  repeat' (first | exact up_none | exact up_same | apply up_rec | split)
 case buildSlice ty len parts =>
  show Up st (opBuildSlice ty len parts P S t st)
  unfold opBuildSlice newSl
  repeat' (first | exact up_none | exact up_newCe | apply up_rec | apply up_rec' | split)
 case insert ty m k x=>exact up_done ups_mapUpdate
 case mapUpdate ty m k x=>exact up_done ups_mapUpdate
 case mapEntry ty m k =>
  show Up st (mapEntry P ty st (evO t m) (evO t k))
  unfold mapEntry entryIn entryNew
  repeat' (first | exact up_none | exact up_put | apply up_rec | split)
 case entryStore ty m s x =>
  refine up_done ?_
  unfold entryStore storeIn
  repeat' (first | exact (fun _ h=>by cases h; exact Nat.le_refl _) | exact (fun _ h=>by cases h) | split)
 case load ty a=>exact up_give
 case store ty a x=>exact up_done ups_storeAt
 case nilCheck x =>
  show Up st (notNil st (evO t x))
  rw [notNil_eq]
  unfold fnOk
  repeat' (first | exact up_none | exact up_same | split)
 case binOp op ty x y ty'=>exact up_give
 case unOp op ty x=>exact up_give
 case convert src dst x =>
  show Up st (conv P st src dst (evO t x))
  unfold conv bytesStr convSl convUp convDown
  repeat' (first | exact up_none | exact up_same | exact up_strOf | exact up_grow | apply up_rec | apply up_rec' | split)
 case makeChan ty x =>
  show Up st (opMakeChan ty x P S t st)
  unfold opMakeChan
  repeat' (first | exact up_none | exact up_new | apply up_rec | split)
 case send ch x =>
  show Up st (sendOf st (evO t x) (evO t ch))
  unfold sendOf
  repeat' (first | exact up_none | exact up_put | apply up_rec | split)
 case select cs bl =>
  show Up st (opSelect cs bl P S t st)
  unfold opSelect takeZ takeOf
  repeat' (first | exact up_none | exact up_same | exact up_put | split)
 case makeInterface xt x =>
  show Up st (opMakeInterface xt x P S t st)
  unfold opMakeInterface
  repeat' (first | exact up_none | exact up_same | split)
 case makeFunc fn a b =>
  show Up st (opMakeFunc fn a b P S t st)
  unfold opMakeFunc
  exact up_rec up_none up_same
 case makeMap ty r =>
  show Up st (opMakeMap r P S t st)
  unfold opMakeMap
  split
  ·exact up_new
  ·exact up_none
 case makeSlice ty l c =>
  show Up st (opMakeSlice ty l c P S t st)
  unfold opMakeSlice
  repeat' (first | exact up_none | exact up_newCe | apply up_rec | apply up_rec' | split)
 case slice ty x lo hi mx=>exact up_give
 case fieldAddr s x n =>
  show Up st (opFieldAddr s x n P S t st)
  unfold opFieldAddr fieldAt
  repeat' (first | exact up_none | exact up_same | split)
 case field s x n =>
  show Up st (opField s x n P S t st)
  unfold opField
  repeat' (first | exact up_none | exact up_give | split)
 case indexAddr ty x ix=>exact up_give
 case index ty x ix=>exact up_give
 case lookup ty x ix ok=>exact up_give
 case range ty x =>
  show Up st (rangeOf P ty st (evO t x))
  unfold rangeOf
  repeat' (first | exact up_none | exact up_new | split)
 case next it isS =>
  show Up st (nextOf st isS (evO t it))
  unfold nextOf nextM
  repeat' (first | exact up_none | exact up_same | exact up_put | apply up_rec | apply up_rec' | split)
 case entry it =>
  show Up st (entryOf st (evO t it))
  have hf:∀ (b:Nat) (es:List (AV × AV × Nat)),Up st (findB b st es):=by
   intro b es
   induction es with
   | nil=>exact up_none
   | cons e l ih=>obtain ⟨k,v,n⟩:=e; exact up_rec ih up_same
  unfold entryOf entryM
  repeat' (first | exact up_none | exact hf _ _ | apply up_rec | apply up_rec' | split)
 case typeAssert x xt as ok =>
  show Up st (assertOf P as ok st (evO t x))
  unfold assertOf
  repeat' (first | exact up_none | exact up_same | apply up_rec | apply up_rec' | apply up_cond | split)
 case extract x n =>
  show Up st (nth n st (evO t x))
  unfold nth
  repeat' (first | exact up_none | exact up_give | split)
 case call c =>
  show Up st (opCall c P S t st)
  unfold opCall
  split
  ·exact up_bui
  ·unfold callV
   repeat' (first | exact up_none | exact up_callF hS | exact up_round hS | split)
  ·unfold callI
   repeat' (first | exact up_none | exact up_callF hS | split)
def UpO (st:St) (r:Out):Prop:=(∀ t' st',r = .nx t' st'→st.next≤st'.next)∧(∀ i t' st',r = .ex i t' st'→st.next≤st'.next)∧(∀ t' st',r = .rt t' st'→st.next≤st'.next)
theorem upo_no:UpO st .no:=⟨fun _ _ h=>(Out.noConfusion h),fun _ _ _ h=>(Out.noConfusion h),fun _ _ h=>(Out.noConfusion h)⟩
theorem upo_nx {t:Tr AV} {st':St} (h:st.next≤st'.next):UpO st (.nx t st'):=⟨fun _ _ e=>(by cases e; exact h),fun _ _ _ e=>(by cases e),fun _ _ e=>(by cases e)⟩
theorem upo_ex {i:Nat} {t:Tr AV} {st':St} (h:st.next≤st'.next):UpO st (.ex i t st'):=⟨fun _ _ e=>(by cases e),fun _ _ _ e=>(by cases e; exact h),fun _ _ e=>(by cases e)⟩
theorem upo_rt {t:Tr AV} {st':St} (h:st.next≤st'.next):UpO st (.rt t st'):=⟨fun _ _ e=>(by cases e),fun _ _ _ e=>(by cases e),fun _ _ e=>(by cases e; exact h)⟩
theorem UpO.mono {st':St} {r:Out} (h:UpO st' r) (hs:st.next≤st'.next):UpO st r :=
 ⟨fun _ _ e=>Nat.le_trans hs (h.1 _ _ e),fun _ _ _ e=>Nat.le_trans hs (h.2.1 _ _ _ e),fun _ _ e=>Nat.le_trans hs (h.2.2 _ _ e)⟩
theorem upo_onT {o:Option (Tr AV)} {k:Tr AV→Out} (hk:∀ t,UpO st (k t)):UpO st (onT o k):=by
 unfold onT
 split
 ·rw [Tr.seen_eq]; exact hk _
 ·exact upo_no
theorem upo_onV {nt:Nat} {t:Tr AV} {d:Option Tmp} {r:Res} {k:Tr AV→St→Out} (hr:Up st r) (hk:∀ t st',st.next≤st'.next→UpO st (k t st')):UpO st (onV nt t d r k):=by
 unfold onV
 split
 ·exact upo_onT fun t=>hk _ _ (hr _ _ rfl)
 ·exact upo_no
theorem upo_evOps {P:Program} {S:Self} (hS:SelfUp S) {nt:Nat} {ops:Array Oper}:∀ (l:List Oper) (t:Tr AV) (st:St),UpO st (evOps P S nt ops l t st)
 | [],t,st=>upo_nx (Nat.le_refl _)
 | o :: l,t,st=>by
  show UpO st (onG P S nt o t st (evOps P S nt ops l) (guardOk ops t o))
  unfold onG
  split
  ·exact upo_onV (up_op hS) fun t' st' h=>(upo_evOps hS l t' st').mono h
  ·exact upo_onT fun t'=>upo_evOps hS l t' st
  ·exact upo_no
theorem upo_thenC {o:Out} {k:Tr AV→St→Out} (ho:UpO st o) (hk:∀ t st',UpO st' (k t st')):UpO st (thenC o k):=by
 unfold thenC
 split
 ·exact (hk _ _).mono (ho.1 _ _ rfl)
 ·exact ho
theorem upo_rangeC {x:Ctx} (hS:SelfUp x.S) {ps:Array Tmp} {a b:Code} {t:Tr AV} {v:AV}:UpO st (rangeC x ps a b t st v):=by
 unfold rangeC
 split
 ·split
  ·rename_i st' h
   have:=up_callF0 hS _ _ h
   unfold rangeEnd
   split
   ·refine upo_nx ?_
    have e:(st.new (.lp t x.nt ps.toList a b)).next=st.next+1:=rfl
    have e':(st'.drop st.next).next=st'.next:=rfl
    omega
   ·exact upo_no
  ·exact upo_no
 ·exact upo_no
theorem up_recs {P:Program} {S:Self} (hS:SelfUp S) {nt:Nat} {ops:Array Oper}:∀ {l:List Oper} {t:Tr AV} {st:St} {R:List Rec},recs P S nt ops l t st=some R→∀ r ∈ R,st.next≤r.st.next
 | [],t,st,R,h=>by
  cases h
  intro r hr
  have:r=⟨t,st,.un,false⟩:=by simpa using hr
  subst this
  exact Nat.le_refl _
 | o :: l,t,st,R,h=>by
  have onR:∀ {r:Rec} {st':St} {k:Option (List Rec)},onRec r k=some R→r.st=st→st.next≤st'.next→(∀ R',k=some R'→∀ r ∈ R',st'.next≤r.st.next)→∀ r ∈ R,st.next≤r.st.next:=by
   intro r st' k hk hr hn hR
   cases k with
   | none=>cases hk
   | some R' =>
    cases hk
    intro x hx
    rcases List.mem_cons.1 hx with rfl | hx
    ·rw [hr]; exact Nat.le_refl _
    ·exact Nat.le_trans hn (hR R' rfl x hx)
  unfold recs at h
  split at h
  ·unfold recsV at h
   split at h
   ·rename_i v st' hv
    unfold recsT at h
    split at h
    ·exact onR h rfl (up_op hS _ _ hv) fun R' hR'=>up_recs hS hR'
    ·cases h
   ·cases h
  ·unfold recsT at h
   split at h
   ·exact onR h rfl (Nat.le_refl _) fun R' hR'=>up_recs hS hR'
   ·cases h
  ·cases h
theorem lastOf_mem:∀ {R:List Rec} {t:Tr AV} {st:St},lastOf R = .nx t st→∃ r ∈ R,r.t=t∧r.st=st
 | [],t,st,h=>by cases h
 | [r],t,st,h=>by cases h; exact ⟨r,by simp,rfl,rfl⟩
 | r :: q :: l,t,st,h=>by
  have h:lastOf (q :: l) = .nx t st:=h
  obtain ⟨x,hx,k⟩:=lastOf_mem h
  exact ⟨x,List.mem_cons_of_mem _ hx,k⟩
theorem lastOf_nx:∀ (R:List Rec),lastOf R = .no∨∃ t st,lastOf R = .nx t st
 | []=>.inl rfl
 | [r]=>.inr ⟨_,_,rfl⟩
 | r :: q :: l=>lastOf_nx (q :: l)
theorem upo_last {P:Program} {S:Self} (hS:SelfUp S) {nt:Nat} {ops:Array Oper} {l:List Oper} {t:Tr AV} {st:St} {R:List Rec} (hR:recs P S nt ops l t st=some R):UpO st (lastOf R):=by
 rcases lastOf_nx R with h | ⟨t',st',h⟩
 ·rw [h]; exact upo_no
 ·rw [h]
  obtain ⟨r,hr,_,rfl⟩:=lastOf_mem h
  exact upo_nx (up_recs hS hR r hr)
theorem upo_drawR {P:Program} {S:Self} (hS:SelfUp S) {nt:Nat} {ops:Array Oper} {l:List Oper} {fl:List (Nat × Nat)} {t:Tr AV}:UpO st (drawR P S ops fl (recs P S nt ops l t st)):=by
 unfold drawR
 split
 ·rename_i R hR
  cases hc:fl.all (recheck P S ops R) with
  | false=>exact upo_no
  | true=>exact upo_last (st:=st) hS hR
 ·exact upo_no
theorem upo_drawS {P:Program} {S:Self} (hS:SelfUp S) {nt:Nat} {t:Tr AV} {m:Option PlanS}:UpO st (drawS P S nt t st m):=by
 cases m with
 | none=>exact upo_no
 | some m=>exact upo_drawR hS
theorem upo_drawST {P:Program} {S:Self} (hS:SelfUp S) {nt:Nat} {ops:Array Oper} {t:Tr AV} {m:Option PlanS}:UpO st (drawST P S nt ops t st m):=by
 cases m with
 | some m =>
  show UpO st (drawS P S nt t st (some m))
  exact upo_drawS hS
 | none =>
  show UpO st (drawT P S nt t st (planT ops))
  cases planT ops with
  | none=>exact upo_no
  | some m =>
   show UpO st (drawT2 P S m (recs P S nt m.m.pops m.m.pops.toList t st) (recs P S nt (otherWay m.k m.m.pops) (otherWay m.k m.m.pops).toList t st))
   cases hA:recs P S nt m.m.pops m.m.pops.toList t st with
   | none=>exact upo_no
   | some RA =>
    cases recs P S nt (otherWay m.k m.m.pops) (otherWay m.k m.m.pops).toList t st with
    | none=>exact upo_no
    | some RB =>
     unfold drawT2
     cases hc:(m.m.fl.all (recheck P S m.m.pops RA) && (m.flB.all (recheck P S (otherWay m.k m.m.pops) RB) && apartAt m.m.pops m.k RA)) with
     | false=>simp only [hc,cond_false]; exact upo_no
     | true=>simp only [hc,cond_true]; exact upo_last (st:=st) hS hA
theorem upo_drawM {P:Program} {S:Self} (hS:SelfUp S) {nt:Nat} {ops:Array Oper} {t:Tr AV} {m:Option PlanM}:UpO st (drawM P S nt ops t st m):=by
 unfold drawM
 split
 ·rename_i m
  unfold drawMR
  split
  ·rename_i R hR
   cases hc:m.fl.all (recheck P S m.aops R) with
   | false=>exact upo_no
   | true =>
    show UpO st (match kvs P m.d (ops.toList.take m.h) R with | some es=>mapEnd P S nt ops m.d m.h es (lastOf R) | none=>.no)
    split
    ·rename_i es hk
     have hl:=upo_last (st:=st) hS hR
     rcases lastOf_nx R with h | ⟨t',st',h⟩
     ·rw [h]; exact upo_no
     ·rw [h] at hl ⊢
      have hn:=hl.1 _ _ rfl
      show UpO st (mapTail P S nt ops m.h es st' (putT nt t' (some m.d) (.m st'.next)))
      unfold mapTail
      split
      ·rw [Tr.seen_eq]
       refine (upo_evOps hS _ _ _).mono ?_
       have:(st'.new (.mu es)).next=st'.next+1:=rfl
       omega
      ·exact upo_no
    ·exact upo_no
  ·exact upo_no
 ·exact upo_drawST hS
theorem upo_drawC {x:Ctx} (hS:SelfUp x.S) {ops:Array Oper} {t:Tr AV}:UpO st (drawC x ops t st):=by
 unfold drawC drawP
 split
 ·unfold drawR
  split
  ·rename_i R hR
   cases hc:List.all _ (recheck x.P x.S ops R) with
   | false=>exact upo_no
   | true=>exact upo_last (st:=st) hS hR
  ·exact upo_no
 ·exact upo_drawM hS
theorem upo_loopC {body:Tr AV→St→Out} (hb:∀ t st,UpO st (body t st)):∀ (n:Nat) (t:Tr AV) (st:St),UpO st (loopC body n t st)
 | 0,_,_=>upo_no
 | n+1,t,st=>upo_thenC (hb t st) (fun t st'=>upo_loopC hb n t st')
theorem upo_regC {x:Ctx} (hS:SelfUp x.S) {ops:Array Oper} {t:Tr AV}:UpO st (regC x ops t st):=by
 have h1:∀ {e:Nat} {t:Tr AV} {st':St} {v:AV},st.next≤st'.next→UpO st (tyVar1 e t st' v):=by
  intro e t st' v h
  unfold tyVar1
  split
  ·rename_i r q
   cases hb:Nat.beq (r+1) st'.next with
   | false=>exact upo_nx h
   | true=>exact upo_nx (show st.next≤st'.next+1 from Nat.le_succ_of_le h)
  ·exact upo_nx h
 have hv:∀ {e:Nat} {d:Tmp} {o:Out},UpO st o→UpO st (regV x e d o):=by
  intro e d o ho
  unfold regV
  cases selfPtr x.P e with
  | false=>exact ho
  | true =>
   show UpO st (tyVar e d o)
   unfold tyVar
   split
   ·exact h1 (ho.1 _ _ rfl)
   ·exact ho
 unfold regC
 split
 ·rename_i o e
  have ho:=upo_evOps hS (nt:=x.nt) (ops:=ops) (P:=x.P) ops.toList t st
  unfold reg1
  split
  ·unfold regD
   split
   ·exact hv ho
   ·exact ho
  ·exact ho
 ·exact upo_evOps hS _ t st
theorem upo_evC:∀ (c:Code) (x:Ctx),SelfUp x.S→∀ (t:Tr AV) (st:St),UpO st (evC c x t st):=by
 intro c
 induction c with
 | skip=>intro x hS t st; exact upo_nx (Nat.le_refl _)
 | region id ops draw =>
  intro x hS t st
  cases draw
  ·exact upo_regC hS
  ·exact upo_drawC (ops:=ops) (t:=t) hS
 | seq a b iha ihb=>intro x hS t st; exact upo_thenC (iha x hS t st) (ihb x hS)
 | cond c a b iha ihb =>
  intro x hS t st
  show UpO st (condC (evC a x) (evC b x) t st (evO t c))
  unfold condC
  split
  ·exact iha x hS t st
  ·exact ihb x hS t st
  ·exact upo_no
 | block id b ih =>
  intro x hS t st
  show UpO st (blockC id (evC b x t st))
  have h:=ih x hS t st
  unfold blockC
  split
  ·rename_i i t' st' e
   rw [e] at h
   have:=h.2.1 _ _ _ rfl
   cases Nat.beq i id
   ·exact upo_ex this
   ·exact upo_nx this
  ·exact h
 | loop b ih=>intro x hS t st; exact upo_loopC (ih x hS) x.n t st
 | rangeFunc f ps a b iha ihb =>
  intro x hS t st
  show UpO st (_root_.cond x.inR .no (rangeC x ps a b t st (evO t f)))
  cases x.inR
  ·exact upo_rangeC hS
  ·exact upo_no
 | exit id=>intro x hS t st; exact upo_ex (Nat.le_refl _)
 | scope b ih=>intro x hS t st; exact upo_no
 | label l=>intro x hS t st; exact upo_nx (Nat.le_refl _)
 | goto l=>intro x hS t st; exact upo_no
 | ret=>intro x hS t st; exact upo_rt (Nat.le_refl _)
 | refuse w=>intro x hS t st; exact upo_no
theorem upo_endD {x:Ctx} (hS:SelfUp x.S) {v:AV} {o:Out} (ho:UpO st o):UpO st (endD x v o):=by
 have hd:∀ (t:Tr AV) (st1:St),st.next≤st1.next→UpO st (dcallF x t st1 v):=by
  intro t st1 h
  unfold dcallF
  split
  ·unfold dcallR
   split
   ·rename_i e
    refine upo_nx (Nat.le_trans h ?_)
    unfold dcall0 dcallB at e
    split at e
    ·split at e
     ·exact hS.dcall _ _ _ _ _ e
     ·cases e
    ·cases e
   ·exact upo_no
  ·exact upo_no
 unfold endD
 split
 ·exact hd _ _ (ho.1 _ _ rfl)
 ·exact hd _ _ (ho.2.2 _ _ rfl)
 ·exact upo_no
theorem upo_evTop {x:Ctx} (hS:SelfUp x.S):∀ (n:Nat) (c:Code) (t:Tr AV) (st:St),UpO st (evTop x n c t st):=by
 intro n
 induction n with
 | zero =>
  intro c t st
  have e:evTop x 0 c t st=evC c x t st:=by cases c <;> rfl
  rw [e]; exact upo_evC c x hS t st
 | succ n ih =>
  intro c t st
  cases c with
  | seq a b =>
   unfold evTop
   split
   ·rename_i ops h d f _
    have ho:=upo_evOps hS (nt:=x.nt) (ops:=ops) (P:=x.P) h t st
    unfold thenD
    split
    ·rename_i t1 st1 e
     rw [e] at ho
     unfold runD
     split
     ·rw [Tr.seen_eq]
      exact upo_endD hS ((upo_evC b x hS _ _).mono (ho.1 _ _ rfl))
     ·exact upo_no
    ·exact upo_no
   ·exact upo_thenC (upo_evC a x hS t st) (ih b)
  | skip=>exact upo_evC .skip x hS t st
  | region id ops dr=>exact upo_evC (.region id ops dr) x hS t st
  | cond o a b=>exact upo_evC (.cond o a b) x hS t st
  | block id a=>exact upo_evC (.block id a) x hS t st
  | loop a=>exact upo_evC (.loop a) x hS t st
  | rangeFunc f ps a b=>exact upo_evC (.rangeFunc f ps a b) x hS t st
  | exit id=>exact upo_evC (.exit id) x hS t st
  | scope a=>exact upo_evC (.scope a) x hS t st
  | label l=>exact upo_evC (.label l) x hS t st
  | goto l=>exact upo_evC (.goto l) x hS t st
  | ret=>exact upo_evC .ret x hS t st
  | refuse why=>exact upo_evC (.refuse why) x hS t st
theorem upo_evCD {x:Ctx} (hS:SelfUp x.S) (c:Code) (t:Tr AV) (st:St):UpO st (evCD x c t st):=by
 unfold evCD
 cases defers 4 c
 ·exact upo_evC c x hS t st
 ·exact upo_evTop hS 4 c t st
theorem up_evBody {P:Program} {S:Self} (hS:SelfUp S) {n:Nat} {f:FuncId} {as:List AV}:Up st (evBody P S n f as st):=by
 have res:∀ {l:List ResultVar} {t:Tr AV} {st':St},st.next≤st'.next→Up st (resOf P l t st'):=by
  intro l t st' h
  unfold resOf
  split <;> first | exact up_none | (intro v s e; cases e; exact h)
 unfold evBody
 split
 ·exact up_none
 ·rename_i fn _
  split
  ·exact up_none
  ·rename_i c _
   refine up_rec up_none ?_
   have h:=upo_evCD (x:=⟨P,S,false,fn.ntmps,n⟩) hS c (tmpsOf as 0 .lf) st
   unfold endF
   split
   ·rename_i e; exact res (h.1 _ _ e)
   ·rename_i e; exact res (h.2.2 _ _ e)
   ·exact up_none
theorem self_up (P:Program):∀ n,SelfUp (self P n)
 | 0=>⟨fun _ _ _=>up_none,fun _ _ _ _=>upo_no,fun _ _ _=>up_none⟩
 | n+1=>⟨fun _ _ _=>up_evBody (self_up P n),fun nt c t st=>upo_evC c ⟨P,self P n,true,nt,n⟩ (self_up P n) t st,fun _ _ _=>up_evBody (self_up P n)⟩
end
end
end Go.Ev
namespace Go.Ev
noncomputable section
section
variable {P : Program} {w : World} {E : Env} {st : St}
theorem sliceData_spec (h:Rel E w.heap st) {ts:List TypeId} {as:List AV} {us:List Value} {v:AV} {st':St} (hb:bSliceData P st ts as=some (v,st')) (hc:ConcL E as us) (tsA:Array TypeId) (ty:TypeId) :
  ∃ z,(Builtin.unsafeSliceData_ tsA ty us.toArray).run P w = .ok z w∧st'=st∧Conc E v z:=by
 unfold bSliceData at hb
 split at hb
 ·rename_i r o n z c
  obtain ⟨hn,hb⟩:=bor hb
  cases hb
  have hn':0 < n:=by simpa [Nat.blt_eq] using hn
  cases hc with | cons _ _ u us hu t =>
  cases t
  cases hu with
  | slk _ _ _ _ c a hle hh =>
   rcases hh with rfl | ⟨B,hB,rfl⟩
   ·omega
   ·exact ⟨_,Lib.run_unsafeSliceData_row w tsA ty _ n c (by omega),rfl,.p r o B hB⟩
  | slu _ _ _ _ c a hle hh =>
   obtain ⟨B,hB,hcc,-⟩:=hh
   rcases hcc with rfl | rfl
   ·omega
   ·exact ⟨_,Lib.run_unsafeSliceData_row w tsA ty _ n c (by omega),rfl,.p r o B hB⟩
 ·cases hb
  cases hc with | cons _ _ u us hu t =>
  cases t
  cases hu
  exact ⟨_,Lib.run_unsafeSliceData_nil w tsA ty 0 0,rfl,.pn⟩
 ·cases hb
theorem byteOf_some {v:AV} {b:Nat} (h:byteOf v=some b):v = .i .u8 (.ofNat b)∧b < 256:=by
 unfold byteOf at h
 split at h
 ·obtain ⟨hb,h⟩:=bor h
  subst h
  exact ⟨rfl,by simpa [Nat.blt_eq] using hb⟩
 ·cases h
theorem bytes_of:∀ {l:List AV} {bs:List Nat} {us:List Value},pmapO byteOf l=some bs→ConcL E l us→us=(bs.map Nat.toUInt8).map (fun b=>Value.int .u8 b.toNat)∧(bs.map Nat.toUInt8).map UInt8.toNat=bs
 | [],bs,us,h,hc=>by cases h; cases hc; exact ⟨rfl,rfl⟩
 | v :: l,bs,us,h,hc=>by
  unfold pmapO at h
  cases hv:byteOf v with
  | none=>rw [hv] at h; cases h
  | some b =>
   rw [hv] at h
   simp only at h
   cases hl:pmapO byteOf l with
   | none=>rw [hl] at h; cases h
   | some bs' =>
    rw [hl] at h; cases h
    obtain ⟨rfl,hb⟩:=byteOf_some hv
    cases hc with | cons _ _ u us hu t =>
    obtain ⟨h1,h2⟩:=bytes_of hl t
    cases hu
    have e:(b.toUInt8).toNat=b:=by simp [Nat.mod_eq_of_lt hb]
    refine ⟨?_,?_⟩
    ·rw [h1]
     simp only [List.map_cons,e]
     rfl
    ·simp only [List.map_cons,e,h2]
theorem unsafeStr_spec (h:Rel E w.heap st) {pt it:TypeId} {p v:AV} {n:Nat} {up:Value} {st':St} (hb:unsafeStr0 P st pt n p=some (v,st')) (hp:Conc E p up) (ty:TypeId) :
  ∃ z w',(Builtin.unsafeString_ #[pt,it] ty #[up,.int .i64 (Int.ofNat n)]).run P w = .ok z w'∧StepW E E w w' st st'∧Conc E v z:=by
 have empty:Conc E (.s []) (.string .empty):=Conc.s (E:=E) .empty
 unfold unsafeStr0 at hb
 split at hb
 ·rename_i r o
  cases hp with | p _ _ B hB =>
  cases h0:Nat.beq n 0 with
  | true =>
   rw [h0] at hb
   cases hb
   have:=Nat.eq_of_beq_eq_true h0
   subst this
   exact ⟨_,w,Lib.run_unsafeString_none w pt it ty _,.refl h,empty⟩
  | false =>
   rw [h0] at hb
   have h0':n≠0:=by rintro rfl; cases h0
   obtain ⟨ho,hb⟩:=brec hb
   have ho':=Nat.eq_of_beq_eq_true ho
   subst ho'
   unfold unsafeStr at hb
   split at hb
   case h_2=>cases hb
   rename_i e hu
   obtain ⟨hk,hb⟩:=brec hb
   simp only [Bool.and_eq_true] at hk
   obtain ⟨hty,hsz,hmax⟩:=hk
   cases hrd:rd st r 0 n with
   | none=>rw [hrd] at hb; cases hb
   | some l =>
    rw [hrd] at hb
    unfold strKill at hb
    simp only at hb
    cases hbs:pmapO byteOf l with
    | none=>rw [hbs] at hb; cases hb
    | some bs =>
     rw [hbs] at hb
     cases hb
     obtain ⟨B2,hB2,hd2,cs2,fz2,hH2⟩:=tyIs_at h hty
     rw [hB] at hB2; cases hB2
     have hd:=hd2 rfl
     unfold rd at hrd
     cases hce:st.ce r with
     | none=>rw [hce] at hrd; cases hrd
     | some lga =>
      obtain ⟨l0,g,al⟩:=lga
      rw [hce] at hrd
      simp only at hrd
      obtain ⟨B',cs,t',fz,hB',hH,hfz,hn,hdl,hC⟩:=h.cells hce
      rw [hB] at hB'; cases hB'
      have htt:t'=e:=by rw [hH] at hH2; simp only [Option.some.injEq,Obj.cells.injEq] at hH2; exact hH2.2.1
      subst htt
      obtain ⟨rfl,hle⟩:=cut_spec hrd
      have hle':n≤l0.length:=by omega
      rw [hd,List.drop_zero] at hC
      rw [List.drop_zero] at hbs
      have hCn:=hC.take n
      rw [List.take_take,Nat.min_eq_left hle'] at hCn
      obtain ⟨hus,hbb⟩:=bytes_of hbs hCn
      have hlen:(bs.map Nat.toUInt8).length=n:=by
       have:=congrArg List.length hus
       simp only [List.length_take,List.length_map] at this
       rw [List.length_map]
       omega
      have hcell:∀ j x,(bs.map Nat.toUInt8)[j]? = some x→w.cell? ((⟨B.b,0,none⟩:Addr).add j)=some (.int .u8 x.toNat):=by
       intro j x hj
       have hjn:j < n:=by rw [← hlen]; exact (List.getElem?_eq_some_iff.1 hj).1
       have h1:(cs.take n)[j]? = some (Value.int .u8 x.toNat):=by
        rw [hus,List.getElem?_map,hj]; rfl
       rw [List.getElem?_take_of_lt hjn] at h1
       have hadd:(⟨B.b,0,none⟩:Addr).add j=⟨B.b,j,none⟩:=by
        unfold Addr.add; split <;> simp_all
       rw [hadd]
       simp [World.cell?,hH,h1]
      have hcs1:P.cellsOf t'=1:=by
       have h1:szOf P t'=1:=Nat.eq_of_beq_eq_true hsz
       unfold szOf at h1
       unfold Program.cellsOf
       cases hi:P.info? t' with
       | none=>rw [hi] at h1; exact h1
       | some i=>rw [hi] at h1; exact h1
      have hne:bs.map Nat.toUInt8≠[]:=by
       intro e0
       rw [e0] at hlen
       exact h0' hlen.symm
      have hmax':n≤9223372036854775807:=Nat.le_of_ble_eq_true hmax
      have hrun:=Lib.run_unsafeString_row (P:=P) w pt it ty t' hu hcs1 B.b cs.length (shape_of hH) (bs.map Nat.toUInt8) hne (by omega) (by omega) hcell
      have haddr:(⟨B.b,0+B.d,none⟩:Addr)=⟨B.b,0,none⟩:=by rw [hd]
      rw [hlen] at hrun
      refine ⟨_,_,by rw [haddr]; exact hrun,?_,?_⟩
      ·have hfreeze:∃ fz',w.freeze ⟨B.b,0,none⟩ n = { w with heap:=w.heap.setIfInBounds B.b (.cells cs.toArray t' fz') }:=by
        obtain ⟨lo,hi⟩:=fz
        refine ⟨if lo == hi then (0,0+n) else (min lo 0,max hi (0+n)),?_⟩
        unfold World.freeze
        rw [if_neg h0']
        congr 1
        obtain ⟨hlt,hEq⟩:=Array.getElem?_eq_some_iff.1 hH
        apply Array.ext
        ·simp
        ·intro j g1 g2
         by_cases e1:j=B.b
         ·subst e1
          rw [Array.getElem_modify_self]
          simp [hEq]
         ·rw [Array.getElem_modify_of_ne (Ne.symm e1),Array.getElem_setIfInBounds_ne _ (Ne.symm e1)]
       obtain ⟨fz',hfr⟩:=hfreeze
       rw [hfr]
       exact .of (Step.killSet h hce hB hH _ fz')
      ·have hs:=Conc.s (E:=E) ⟨(bs.map Nat.toUInt8).toArray⟩
       have e1:((⟨(bs.map Nat.toUInt8).toArray⟩:ByteArray).data.toList.map UInt8.toNat)=bs:=by
        rw [show (⟨(bs.map Nat.toUInt8).toArray⟩:ByteArray).data.toList=bs.map Nat.toUInt8 by simp]
        exact hbb
       rw [e1] at hs
       exact hs
 ·obtain ⟨h0,hb⟩:=bor hb
  cases hb
  have:=Nat.eq_of_beq_eq_true h0
  subst this
  cases hp
  exact ⟨_,w,Lib.run_unsafeString_none w pt it ty _,.refl h,empty⟩
 ·cases hb
end
end
end Go.Ev
