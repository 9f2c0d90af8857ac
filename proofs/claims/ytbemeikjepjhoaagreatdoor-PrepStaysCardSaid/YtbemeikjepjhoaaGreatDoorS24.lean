/-
  From the abstract run to the machine's call: a closed function that answers true.
-/
import Derived.Test.YtbemeikjepjhoaaGreatDoorS23
import Derived.Carry
namespace Go.Ev
noncomputable section
def st0:St:=⟨.lf,.lf,0⟩
theorem st0_get (r:Nat):st0.get r=none:=by
 unfold st0 St.get
 exact Tr.get_lf r
theorem st0_rel (H:Array Obj) (top:Nat):Rel ⟨fun _=>none,fun _=>none,top⟩ H st0:=by
 have hal:∀ r row,st0.alive r=some row→False:=fun r row h=>by have:=Rel.alive_get h; rw [st0_get] at this; cases this
 have hlv:∀ g:Nat,st0.live.get g=none:=fun g=>Tr.get_lf g
 refine ⟨fun _ _ h=>(by cases h),fun _ _ _=>rfl,fun r _=>st0_get r,fun g _=>hlv g,fun g al x h=>?_,fun r row h=>(hal r row h).elim,fun r row B h=>(hal r row h).elim,fun r r' row row' B B' h=>(hal r row h).elim,fun g al h=>?_,fun r t r0 x h=>by rw [st0_get] at h; cases h⟩
 ·rw [hlv] at h; cases h
 ·rw [hlv] at h; cases h
def saysTrue (P:Program) (n:Nat) (f:FuncId):Bool :=
 match evF P n f [] st0 with
 | some (v,_)=>match v.asB with
  | some b=>b
  | none=>false
 | none=>false
theorem saysTrue_calls {P:Program} (hng:NoNG P) (hmx:P.follows .mixedOrders=true) {n:Nat} {f:FuncId} (h:saysTrue P n f=true) (w:World) :
  ∃ w',CallsTo P f #[] w w' (.bool true)∧w'.os=w.os∧w'.output=w.output∧w.heap.size≤w'.heap.size∧∀ i,i < w.heap.size→w'.heap[i]? = w.heap[i]?:=by
 unfold saysTrue at h
 split at h
 case h_2=>cases h
 rename_i v st' he
 split at h
 case h_2=>cases h
 rename_i b hb
 subst h
 have hv:=AV.asB_some hb
 subst hv
 obtain ⟨E',w',cv,h1,h2,h3⟩:=(self_ok hng hmx n).call (E:=⟨fun _=>none,fun _=>none,st'.next⟩) (w:=w) (us:=[]) (st0_rel w.heap st'.next) .nil he (Nat.le_refl _)
 cases h3
 refine ⟨w',h1,h2.os,h2.out,h2.fr.size,fun i hi=>h2.fr.keep i hi ?_⟩
 rintro ⟨r,row,B,ha,_,_⟩
 have:=Rel.alive_get ha
 rw [st0_get] at this; cases this
theorem Step.grow {E:Env} {H H':Array Obj} {st:St} (h:Rel E H st) (hs:H.size≤H'.size) (hk:∀ b,b < H.size→H'[b]? = H[b]?):Step E E H H' st st:=by
 refine ⟨.refl E,fun _ _ _ h=>h,rfl,⟨?_,h.fresh,h.freshRow,h.freshG,h.liveLt,?_,h.own,h.sep,h.ends,fun r t r0 x hx=>(h.tys r t r0 x hx).mono (.refl E) (TyKeep.of_old hk)⟩,hs,fun b hb _=>hk b hb,fun _ h=>.inr h⟩
 ·intro b o' hb; rw [hk b (h.imm_lt hb)]; exact h.imm b o' hb
 ·intro r row hr
  obtain ⟨B,hB,hR⟩:=h.rows r row hr
  exact ⟨B,hB,hR.mono (.refl E) (hk _ hR.lt)⟩
def withTrue (g:FuncId) (S:Self):Self :=
 ⟨fun f as st=>@Bool.rec (fun _=>Res) (S.call f as st) (match as with | []=>some (.b true,st) | _=>S.call f as st) (Nat.beq f g),S.code,S.dcall⟩
theorem withTrue_ok {P:Program} {S:Self} {g:FuncId} (hS:SelfOK P S) (hg:∀ w,∃ w',CallsTo P g #[] w w' (.bool true)∧w'.os=w.os∧w'.output=w.output∧w.heap.size≤w'.heap.size∧∀ i,i < w.heap.size→w'.heap[i]? = w.heap[i]?):SelfOK P (withTrue g S):=by
 refine ⟨hS.ng,hS.mixed,⟨fun f as st=>?_,hS.up.code,hS.up.dcall⟩,fun {E w st st' f as us v} hr hc h hn=>?_,fun {E w st nt c t a b} k hb hr ht hm hl=>hS.code k hb hr ht hm hl,hS.dcall⟩
 ·unfold withTrue
  simp only
  cases Nat.beq f g with
  | false=>exact hS.up.call f as st
  | true =>
   cases as with
   | nil=>exact up_same
   | cons a l=>exact hS.up.call f (a :: l) st
 ·unfold withTrue at h
  simp only at h
  cases hb:Nat.beq f g with
  | false=>rw [hb] at h; exact hS.call hr hc h hn
  | true =>
   rw [hb] at h
   cases as with
   | cons a l=>exact hS.call hr hc h hn
   | nil =>
    cases h
    cases hc
    have:f=g:=by simpa [nbeq] using hb
    subst this
    obtain ⟨w',h1,h2,h3,h4,h5⟩:=hg w
    exact ⟨E,w',.bool true,h1,⟨Step.grow hr h4 h5,h2,h3⟩,.b true⟩
theorem calls_ofN {P:Program} {f:FuncId} {args:Array Value} {w:World} (h:∃ w',CallsTo P f args w w' (.bool true)∧w'.os=w.os∧w'.output=w.output∧w.heap.size≤w'.heap.size∧∀ i,i < w.heap.size→w'.heap[i]? = w.heap[i]?) :
  Calls P f args w fun e w'=>e = .returned (.bool true)∧(∀ may,w.keptBut w' may)∧∀ i,i < w.heap.size→w'.heap[i]? = w.heap[i]?:=by
 obtain ⟨w',h1,h2,h3,h4,h5⟩:=h
 intro cs
 obtain ⟨fr,k1,k2,k3⟩:=h1 cs
 refine ⟨.returned (.bool true),w',fr,⟨rfl,fun may=>⟨h2,h3,fun i hi=>?_⟩,h5⟩,k1,k2,k3⟩
 rw [h5 i hi]
 cases ho:w.heap[i]? with
 | none=>rfl
 | some o =>
  cases o with
  | cells c t fz=>exact ⟨rfl,rfl,rfl,fun _ _=>rfl⟩
  | map es clock=>exact .inr ⟨rfl,rfl⟩
  | _=>rfl
theorem same_of_kept {w w':World} (h:∀ i,i < w.heap.size→w'.heap[i]? = w.heap[i]?) {p:MemPlace} (hp:p.block < w.heap.size):w.sameAt w' p:=by
 cases p with
 | cell b off=>exact World.cell?_of_block (w:=w) (h b hp)
 | map b=>exact h b hp
def noNG (P:Program):Bool:=P.funcs.all fun fn=>!(fn.name == "runtime.NumGoroutine")
theorem noNG_spec {P:Program} (h:noNG P=true):NoNG P:=by
 intro f fn hf
 have:=Array.all_eq_true_iff_forall_mem.1 h fn (Array.mem_of_getElem? hf)
 simpa using this
end
end Go.Ev
