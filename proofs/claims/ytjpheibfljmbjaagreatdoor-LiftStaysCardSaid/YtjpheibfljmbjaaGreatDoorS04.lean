/- A part of the proof. -/
import Derived.Test.YtjpheibfljmbjaaGreatDoorS03
import Derived.AtR
import Derived.Conc.LoneSelect
import Derived.Lib.MakeNoZero
open Nat renaming le_refl->Q0, le_trans->Q6, beq->J3, le_succ->Z9, mod_eq_of_lt->V8
open Go.Region renaming wanted->Q1, binds->Q8
open Go.Steps renaming one->Q2
open Go.Sem renaming run_bind->Q3, run_pure->J4
open Go.Result renaming andThen_ok->Q4
open List renaming range'->Q7, range'_succ->J9, mem_cons_self->Z4, find?_cons->V2, mem_cons_of_mem->X7, mem_append_left->X9, mem_filterMap->Y0, mem_append_right->Y1
open Go.Oper renaming semAt_eq->Q9
open Array renaming getD_eq_getD_getElem?->J1, getElem?_eq_some_iff->V0, range->X5
open Go.Frame renaming finish_atR->J5, enter->J6, round->Z8
open Go.Act renaming put->J8
open Int renaming ofNat->Z3
open Go.Deferred renaming ofValue->Z5
open Go.Instr renaming alloc->Z6, box->Z7, getLoop->V1, yield->V9, beginRound->X0, endRound->X4, buildSlice->X6
open Go.Extern renaming findNext->V3, find->V4, allNextRows->V7
open Go.Extern.BytealgIndexByte renaming indexByte->V6
open Go.Call renaming operands->X8
open List.Pairwise renaming nil->Y2
open Option.some renaming inj->Y3
noncomputable section
namespace Go.Ev
variable {E E' E0 : Env}{H H' H0 : Array Obj}{P : Program}{S : Self}{X' Y st st' st1 : St}{a : Act}{as l : List AV}{b fc : Frame}{bs rest : List Nat}{cs ks : List Frame}{d : Option Tmp}{ds : List Deferred}{f : FuncId}{fn : Func}{i n n0 nt r z : Nat}{k : List Item}{m : Option nZ}{m1 : Machine}{o : Oper}{ops : Array Oper}{row : Row}{s v x : AV}{t t' : Tr AV}{ts : List TypeId}{u : Value}{us : List Value}{w w' : World}{y : aR}{ρ : Operand->Value}
def EY:Op->Bool
 |.call c=>match c.callee with
  |.builtin _=>false
  |_=>true
 |_=>false
theorem xP(hρ:∀ x,Conc E (ai t x) (ρ x)):∀ o:Option Operand,mF E (o.map (ai t)) (o.map ρ)
 |none=>.none
 |some x=>.some _ _ (hρ x)
theorem Kh(hs:notNil st x=some (v,st'))(hx:Conc E x u):st'=st/\Conc E v u/\
  (u≠.pointer none/\u≠.nilIface/\u≠.nilFunc/\∀ n a b,u≠.func (.method n) a b):=by
 rw[Oo]at hs;split at hs
 ·cases hs;cases hx;exact⟨rfl,.p _ _ _ (by grind),by simp⟩
 ·cases hs;cases hx;exact⟨rfl,.gp _,by simp⟩
 ·cases hs;cases hx;exact⟨rfl,.rp _ _ _ _ (by omega) (by grind),by simp⟩
 ·unfold Fq at hs;split at hs
  ·cases hs;exact⟨rfl,hx,by cases hx;simp⟩
  ·cases hs;exact⟨rfl,hx,by cases hx<;>simp⟩
  grind
 grind
theorem PP(h:u≠.pointer none/\u≠.nilIface/\u≠.nilFunc/\∀ n a b,u≠.func (.method n) a b){x:Operand}(hx:ρ x=u)(ho:o.op=.nilCheck x):(execOp ρ o).run P w=.ok (.value u) w:=by simp_all[execOp]
theorem Yu(h:Rel E w.heap st){b:Builtin}{ts:Array TypeId}(hb:xj b P st ts.toList as=some (v,st'))(hc:aP E as us)(hn:st'.next<=E.top)(ty:TypeId)(cs:Array Bool):
  rZ E w st st' v ((builtin b ts ty cs us.toArray).run P w):=by
 have two:∀ {s:Sem Value} {z:Value} {E':Env} {w':World},s.run P w=.ok z w'->bt E E' w w' st st'->Conc E' v z->rZ E w st st' v ((do pure (.value (<-s)):Sem Next).run P w):=fun a b c=>qu a b c
 cases b<;>first|(cases hb)|skip
 case append =>
  simp[xj,gS]at hb;split at hb
  ·rename_i s x;cases hc with|cons _ _ u us h1 t =>
   cases t with|cons _ _ u' us' h2 t' =>
   cases hx:gk x with
   |none =>rw[hx]at hb;obtain⟨E',w',z,k1,k2,k3⟩:=UO h hb h1 h2 hn ty;exact two k1 k2 k3
   |some n =>
    rw[hx]at hb;obtain⟨k,rfl⟩:=Iy hx;cases h2;simp[uY]at hb;split at hb
    ·cases h1;obtain⟨E',w',z,k1,k2,k3⟩:=XH h hb hn ty;exact two k1 k2 k3
    grind
  grind
 case cap =>
  simp[xj,zR]at hb;split at hb
  ·rename_i t r x hts;split at hb
   ·rename_i e he;cases hc with|cons _ _ u us h1 t =>obtain⟨rfl,z,k1,k2⟩:=acn (w:=w) (r:=r) he hb h1 ty;have:ts=(_::r).toArray:=Array.toList_inj.1 hts;subst this;exact two k1 (.refl h) k2
   grind
  grind
 case clear =>
  obtain⟨x,rfl⟩:=aag hb;cases hc with|cons _ _ u us h1 t =>
  cases t;obtain⟨w',k1,k2,rfl⟩:=XQ h hb h1 ty;exact two (by simp_all) k2 (.tu [] [] .nil)
 case len =>
  simp[xj,ft]at hb;split at hb
  ·cases hc with|cons _ _ u us h1 t =>cases t;obtain⟨rfl,z,k1,k2⟩:=QJ h hb h1 ty;exact two (by simp_all) (.refl h) k2
  grind
 case max =>obtain⟨rfl,z,k1,k2⟩:=ZE (w:=w) (P:=P) (ts:=ts.toList) hb hc ts ty;exact two k1 (.refl h) k2
theorem yN{α β:Type}(f:α->β)(a:Array α):(a.toList.map f).toArray=a.map f:=by grind
theorem acF(h:Rel E w.heap st)(hρ:∀ x,Conc E (ai t x) (ρ x))(ho:da P S t st o=some (v,st'))(hn:st'.next<=E.top)
  (hc:EY o.op=false):rZ E w st st' v ((execOp ρ o).run P w):=by
 have nop:∀ {r:AV× St},ma P S t st=some r->False:=fun h=>by cases h
 unfold da at ho;cases hop:o.op<;>rw[hop]at ho hc<;>first|exact(nop ho).elim|(cases hc;done)|skip
 case move x =>cases ho;simp[execOp,hop];exact⟨E,w,ρ x,.inl rfl,.refl h,hρ x⟩
 case assign x =>cases ho;simp[execOp,hop];exact⟨E,w,ρ x,.inl rfl,.refl h,hρ x⟩
 case pick c a b =>
  have ho:rX (ai t a) (ai t b) st (ai t c).gV=some (v,st'):=ho;cases hb:(ai t c).gV with
  |none=>rw[hb]at ho;cases ho
  |some bb =>
   rw[hb]at ho;have hr:=MD (P:=P) (w:=w) hb (hρ c);simp[execOp,hop];cases bb with
   |true =>cases ho;exact⟨E,w,ρ a,.inl (by simp_all),.refl h,hρ a⟩
   |false =>cases ho;exact⟨E,w,ρ b,.inl (by simp_all),.refl h,hρ b⟩
 case alloc e =>
  have ho:mY st (bm P e)=some (v,st'):=ho;cases hz:bm P e with
  |none=>rw[hz]at ho;cases ho
  |some l =>obtain⟨z,g1,g2,g3,g4⟩:=rG (E:=E) hz;obtain⟨E',w',a,k1,k2,k3⟩:=P6 (P:=P) h ho hn (us:=z.cells) e (fun l' e=>by grind);simp only[execOp,hop];refine qu ?_ k2 k3;simp_all[Z6,newVar]
 case box e x =>have ho:mY st (ai t x).cells=some (v,st'):=ho;obtain⟨E',w',a,k1,k2,k3⟩:=P6 (P:=P) h ho hn e (fun l' e=>Az (hρ x) e);grind[execOp,qu,Z7,newVar,Q3,Q4,J4]
 case build ty parts =>obtain⟨rfl,z,k1,k2⟩:=Kz (S:=S) (w:=w) hρ ho;grind[execOp,pX]
 case buildSlice ty len parts =>obtain⟨E',w',z,k1,k2,k3⟩:=Vh (S:=S) h hρ ho hn;grind[execOp,qu]
 case insert ty m k x =>obtain⟨hd,rfl⟩:=Cj ho;obtain⟨w',k1,k2⟩:=KH h hd (hρ m) (hρ k) (hρ x);simp only[execOp,hop];exact Ec k1 k2
 case mapEntry ty m k =>obtain⟨w',z,k1,k2,k3⟩:=aac h ho (hρ m) (hρ k);simp only[execOp,hop];exact qu k1 k2 k3
 case entryStore ty m s x =>obtain⟨hd,rfl⟩:=Cj ho;obtain⟨w',k1,k2⟩:=aap h hd (hρ m) (hρ s) (hρ x);simp only[execOp,hop];exact Ec k1 k2
 case mapUpdate ty m k x =>obtain⟨hd,rfl⟩:=Cj ho;obtain⟨w',k1,k2⟩:=KH h hd (hρ m) (hρ k) (hρ x);simp only[execOp,hop];exact Ec k1 k2
 case load ty a =>obtain⟨hd,rfl⟩:=kH ho;obtain⟨z,k1,k2⟩:=I6 h hd (hρ a);simp only[execOp,hop];exact pX h k1 k2
 case store ty a x =>obtain⟨hd,rfl⟩:=Cj ho;obtain⟨w',k1,k2⟩:=aar h hd (hρ a) (hρ x);simp only[execOp,hop];exact Ec k1 k2
 case nilCheck x =>obtain⟨rfl,k2,k3⟩:=Kh ho (hρ x);exact⟨E,w,ρ x,.inl (PP k3 rfl hop),.refl h,k2⟩
 case binOp op ty x y ty' =>obtain⟨hd,rfl⟩:=kH ho;obtain⟨z,k1,k2⟩:=Po hd (hρ x) (hρ y);simp only[execOp,hop];exact pX h k1 k2
 case unOp op ty x =>obtain⟨hd,rfl⟩:=kH ho;obtain⟨z,k1,k2⟩:=Lp hd (hρ x);simp only[execOp,hop];exact pX h k1 k2
 case convert src dst x =>obtain⟨E',w',z,k1,k2,k3⟩:=UC h ho (hρ x) hn;simp only[execOp,hop];exact qu k1 k2 k3
 case makeFunc fn a b =>
  obtain⟨hf,ho⟩:=fo ho;cases ho;simp only[execOp,hop];refine pX h rfl ?_;have:=Conc.f fn _ _ _ _ hf (vp hρ a.toList) (vp hρ b.toList)
  rwa [yN,yN]at this
 case makeMap ty r =>
  have ho:zW r P S t st=some (v,st'):=ho;unfold zW at ho;cases r with
  |some _=>grind
  |none =>cases ho;simp only[execOp,hop];have hs:=I9 h (show st.next+1<=E.top from hn) (.map #[] 0) (.mp [] 0) (fun _ _ e=>by cases e) (fun F _=>⟨#[],by simp,trivial⟩);refine qu ?_ hs (.m _ _ Env.fj);simp[Instr.makeMap]
 case slice ty x lo hi mx =>obtain⟨hd,rfl⟩:=kH ho;obtain⟨z,k1,k2⟩:=Oe h hd (hρ x) (xP hρ lo) (xP hρ hi) (xP hρ mx);simp only[execOp,hop];exact pX h k1 k2
 case fieldAddr s x n =>
  have ho:pZ s x n P S t st=some (v,st'):=ho;unfold pZ at ho;split at ho
  ·rename_i o' ho';obtain⟨rfl,z,k1,k2⟩:=PW (w:=w) ho' ho (hρ x);simp only[execOp,hop];exact pX h k1 k2
  ·cases ho
 case indexAddr ty x ix =>obtain⟨hd,rfl⟩:=kH ho;obtain⟨z,k1,k2⟩:=Lw hd (hρ x) (hρ ix);simp only[execOp,hop];exact pX h k1 k2
 case index ty x ix =>obtain⟨hd,rfl⟩:=kH ho;obtain⟨z,k1,k2⟩:=Rg hd (hρ x) (hρ ix);simp only[execOp,hop];exact pX h k1 k2
 case lookup ty x ix ok =>obtain⟨hd,rfl⟩:=kH ho;obtain⟨z,k1,k2⟩:=QU h hd (hρ x) (hρ ix);simp only[execOp,hop];exact pX h k1 k2
 case range ty x =>obtain⟨E',w',z,k1,k2,k3⟩:=RU h ho (hρ x) hn;simp only[execOp,hop];exact qu k1 k2 k3
 case next it isS =>obtain⟨w',z,k1,k2,k3⟩:=abE h ho (hρ it) o.type;simp only[execOp,hop];exact qu k1 k2 k3
 case entry it =>obtain⟨rfl,z,k1,k2⟩:=Vx (P:=P) h ho (hρ it);simp only[execOp,hop];exact pX h k1 k2
 case extract x n =>obtain⟨rfl,z,k1,k2⟩:=JL (P:=P) (w:=w) ho (hρ x);simp only[execOp,hop];exact pX h k1 k2
 case call c =>
  have ho:sG c P S t st=some (v,st'):=ho;unfold sG at ho;cases hcc:c.callee<;>rw[hcc]at ho<;>first|(simp only[EY,hcc]at hc;cases hc;done)|skip
  rename_i b;simp[execOp,hop,resolve,hcc,invoke];have:=Yu h ho (vp hρ c.args.toList) hn o.type (c.args.map fun|.const _=>true|_=>false);rw[yN]at this;exact this
theorem BS(ho:ops[i]? = some o)(hw:Q1 o (yielded ops a.tmps)=true)(hd:∀ c,o.op≠.defer c){v:Value}(hr:(execOp a.eval o).run P w=.ok (.value v) w'):
  step P (lone (b.atR a (.inRegion ops (i::rest)::k)) cs w)=.next (lone (b.atR (a.put o.dst v) (.inRegion ops rest::k)) cs w'):=by
 have hf:=J5 b a ops i rest k v;refine step_lone_go ?_;simp_all[stepGR_op,Q9,stepG.apply]
theorem Ix(ho:ops[i]? = some o)(hw:Q1 o (yielded ops a.tmps)=true)(hd:∀ c,o.op≠.defer c)(hr:(execOp a.eval o).run P w=.ok .skip w'):
  step P (lone (b.atR a (.inRegion ops (i::rest)::k)) cs w)=.next (lone (b.atR (a.put o.dst undef) (.inRegion ops rest::k)) cs w'):=by
 have hf:=J5 b a ops i rest k undef;refine step_lone_go ?_;simp_all[stepGR_op,Q9,stepG.apply]
theorem QL(ho:ops[i]? = some o)(hw:Q1 o (yielded ops a.tmps)=true)(hd:∀ c,o.op≠.defer c){args:Array Value}(hr:(execOp a.eval o).run P w=.ok (.enter f args) w'):
  step P (lone (b.atR a (.inRegion ops (i::rest)::k)) cs w)=.next (lone (J6 P f args .normal) (b.atR a (.inRegion ops (i::rest)::k)::cs) w'):=by
 refine step_lone_go ?_;rw[stepGR_op ho hw,Q9 _ _ _ hd];simp_all[stepG.apply,Frame.atR]
theorem stepG_comm(ho:ops[i]? = some o)(hw:Q1 o (yielded ops a.tmps)=true)(hd:∀ c,o.op≠.defer c){cases:Array CommCase}{bl:Bool}{sh:CommShape}(hr:(execOp a.eval o).run P w=.ok (.comm cases bl sh) w'):
  ∃ es,stepG P true (_root_.Go.Conc.G (b.atR a (.inRegion ops (i::rest)::k)) cs) w=.comm (_root_.Go.Conc.G (b.atR a (.inRegion ops (i::rest)::k)) cs) cases bl sh w' es:=by
 have h:=stepGR_op (P:=P) (b:=b) (k:=k) (cs:=cs) (w:=w) (rest:=rest) ho hw;rw[Q9 _ _ _ hd]at h;have e:_root_.Go.Conc.G (b.atR a (.inRegion ops (i::rest)::k)) cs={ frame:=b.atR a (.inRegion ops (i::rest)::k),callers:=cs,status:=.running,dying:=none }:=rfl;rw[e,h];simp[stepG.apply,hr];exact⟨_,rfl⟩
theorem Mh(ho:ops[i]? = some o)(hw:Q1 o (yielded ops a.tmps)=true)(hd:∀ c,o.op≠.defer c){l:Nat}{tmps:Array Value}{x y:Code}(hr:(execOp a.eval o).run P w=.ok (.round l f tmps x y) w'):
  step P (lone (b.atR a (.inRegion ops (i::rest)::k)) cs w)=.next (lone (Z8 l f tmps x y .normal) (b.atR a (.inRegion ops (i::rest)::k)::cs) w'):=by
 refine step_lone_go ?_;rw[stepGR_op ho hw,Q9 _ _ _ hd];simp_all[stepG.apply]
def Up(st:St)(r:aR):Prop:=∀ v st',r=some (v,st')->st.next<=st'.next
def uj(st:St)(r:Option St):Prop:=∀ st',r=some st'->st.next<=st'.next
theorem bF:Up st none:=fun _ _ h=>by grind
theorem gR:Up st (some (v,st)):=fun _ _ h=>by grind
theorem Hn:Up st (some (v,st.new row)):=fun _ _ h=>by cases h;exact Z9 _
theorem CP:Up st (some (v,st.aw l)):=fun _ _ h=>by cases h;exact Z9 _
theorem MQ:Up st (some (v,st.put r row)):=fun _ _ h=>by cases h;exact Q0 _
theorem qe{b:Bool}{x:aR}(hx:Up st x)(hy:Up st y):Up st (@Bool.rec (fun _=>aR) x y b):=by cases b<;>assumption
theorem ye{b:Bool}{x:aR}(hx:Up st x)(hy:Up st y):Up st (@Bool.rec (fun _=>Option (AV× St)) x y b):=by cases b<;>assumption
theorem vd{o:Option AV}:Up st (dC st o):=by cases o;exact bF;exact gR
theorem EP{o:Option St}(h:uj st o):Up st (done o):=by
 cases o with
 |none=>exact bF
 |some x=>intro v st' e;cases e;exact h _ rfl
theorem Ed:uj st none:=fun _ h=>by grind
theorem RX:uj st (some (st.put r row)):=fun _ h=>by cases h;exact Q0 _
theorem Jb{b:Bool}{x y:Option St}(hx:uj st x)(hy:uj st y):uj st (@Bool.rec (fun _=>Option St) x y b):=by cases b<;>assumption
theorem yV{o:Nat}:uj st (wt st r o l):=by
 unfold wt;split
 ·refine Jb Ed ?_;intro st' h;grind
 ·exact Ed
theorem VZ{n:Option Nat}:Up st (int64 st n):=by cases n;exact bF;exact gR
theorem Le{l:Option (List AV)}:Up st (mY st l):=by cases l;exact bF;exact CP
theorem YF{t:TypeId}{a:AV}:uj st (storeAt P t st a v):=by unfold storeAt wg;grind[Ed,yV,Jb]
theorem Qt{t:TypeId}{k:AV}:uj st (mapUpdate P t st x k v):=by unfold mapUpdate;grind[Ed,RX,Jb]
theorem aa2:Up st (some (grow st z n l)):=CP
theorem RM{o len:Nat}:Up st (yW st r o len z n l):=by unfold yW;intro v st' h;grind
theorem Sl{o:Nat}:Up st (match wt st r o l with|some st=>some (v,st)|none=>none):=by
 split
 ·rename_i s h;intro v st' e;cases e;exact yV _ h
 ·exact bF
theorem VX:Up st (append P st ts s x):=by
 unfold append
 repeat' (first|exact bF|exact gR|exact aa2|exact RM|exact Sl|apply qe|apply ye|split)
theorem abH{n:Option Nat}:Up st (uY P st ts s x n):=by
 unfold uY;split
 ·split
  ·unfold Cp Dd Cl;grind[bF,gR,CP,ye]
  ·exact bF
 ·exact VX
theorem Xw{b:Builtin}:Up st (xj b P st ts as):=by
 unfold xj;split
 ·unfold gS;split;exact abH;exact bF
 ·unfold ft sg;grind[bF,VZ,ye]
 ·unfold zR AG;grind[bF,gR]
 ·unfold vA Ik yz DK;split
  ·split
   ·split
    ·apply qe
     ·split
      ·split
       ·rename_i h;intro v st' e;cases e;exact yV _ h
       ·exact bF
      ·exact bF
     ·exact gR
    ·exact gR
    ·exact bF
   ·exact bF
  ·exact bF
 ·unfold yX;split;exact gR;exact bF
 ·exact bF
structure gC(S:Self):Prop where
 call:∀ f as st,Up st (S.call f as st)
 code:∀ nt c t st,(∀ t' st',S.code nt c t st=.nx t' st'->st.next<=st'.next)/\(∀ i t' st',S.code nt c t st=.ex i t' st'->st.next<=st'.next)/\(∀ t' st',S.code nt c t st=.rt t' st'->st.next<=st'.next)
 dcall:∀ f as st,Up st (S.dcall f as st)
theorem PS(hS:gC S):Up st (qA P S f as st):=by
 unfold qA Dl
 repeat' (first|exact bF|exact hS.call _ _ _|split)
theorem Zn:Up st (BT fn st as):=by
 refine qe bF ?_;unfold DG;split
 ·refine qe bF ?_;unfold Ig;split<;>exact gR
 ·exact bF
theorem T2(hS:gC S):Up st (nj P S f as st):=by
 unfold nj gN
 repeat' (first|exact bF|exact hS.call _ _ _|exact Zn|split)
theorem Xr(hS:gC S){l:Nat}:Up st (round S l as st):=by
 unfold round;split
 ·rename_i t nt ps a b hg;split
  ·rename_i t' ht;intro v st' h;unfold GW at h;split at h
   ·rename_i t1 st1 h1;unfold Dr at h;split at h
    ·rename_i t2 st2 h2;cases h;have e1:=(hS.code nt a t' (st.drop l)).1 _ _ h1;have e2:=(hS.code nt b t1 st1).1 _ _ h2;have e0:(st.drop l).next=st.next:=rfl;have e3:(st2.put l (.lp t nt ps a b)).next=st2.next:=rfl;omega
    grind
   grind
  ·exact bF
 ·exact bF
theorem Jf(hS:gC S):Up st (da P S t st o):=by
 have nop:Up st (ma P S t st):=bF;unfold da;cases hop:o.op<;>first|exact nop|skip
 case move x=>exact gR
 case assign x=>exact gR
 case pick c a b =>
  show Up st (rX (ai t a) (ai t b) st (ai t c).gV)
  unfold rX;grind[bF,gR]
 case alloc e=>exact Le
 case box e x=>exact Le
 case build ty parts =>
  show Up st (@Bool.rec (fun _=>aR) none (df P ty (gQ t parts.toList) st) (fu P ty))
  unfold df jg EM;grind[bF,gR,qe]
 case buildSlice ty len parts =>
  show Up st (oZ ty len parts P S t st)
  unfold oZ uq;grind[bF,CP,ye]
 case insert ty m k x=>exact EP Qt
 case mapUpdate ty m k x=>exact EP Qt
 case mapEntry ty m k =>
  show Up st (mapEntry P ty st (ai t m) (ai t k))
  unfold mapEntry Ao FV;grind[bF,MQ,qe]
 case entryStore ty m s x =>
  refine EP ?_;unfold entryStore FO
  repeat' (first|exact(fun _ h=>by cases h;exact Q0 _)|exact(fun _ h=>by cases h)|split)
 case load ty a=>exact vd
 case store ty a x=>exact EP YF
 case nilCheck x =>
  show Up st (notNil st (ai t x))
  rw[Oo];unfold Fq;grind[bF,gR]
 case binOp op ty x y ty'=>exact vd
 case unOp op ty x=>exact vd
 case convert src dst x =>
  show Up st (conv P st src dst (ai t x))
  unfold conv
  grind[bF,gR]
 case makeFunc fn a b =>
  show Up st (zL fn a b P S t st)
  grind[zL,qe,bF,gR]
 case makeMap ty r =>
  show Up st (zW r P S t st)
  unfold zW;grind[Hn,bF]
 case slice ty x lo hi mx=>exact vd
 case fieldAddr s x n =>
  show Up st (pZ s x n P S t st)
  grind[pZ,fieldAt,bF,gR]
 case indexAddr ty x ix=>exact vd
 case index ty x ix=>exact vd
 case lookup ty x ix ok=>exact vd
 case range ty x =>
  show Up st (rL P ty st (ai t x))
  unfold rL;grind[bF,Hn]
 case next it isS =>
  show Up st (wZ st isS (ai t it))
  unfold wZ FY
  repeat' (first|exact bF|exact gR|exact MQ|apply qe|apply ye|split)
 case entry it =>
  show Up st (tm st (ai t it))
  have hf:∀ (b:Nat) (es:List (AV× AV× Nat)),Up st (vQ b st es):=by
   intro b es;induction es with
   |nil=>exact bF
   |cons e l ih=>obtain⟨k,v,n⟩:=e;exact qe ih gR
  unfold tm Dx
  repeat' (first|exact bF|exact hf _ _|apply qe|apply ye|split)
 case extract x n =>
  show Up st (nth n st (ai t x))
  unfold nth;grind[bF,vd]
 case call c =>
  show Up st (sG c P S t st)
  unfold sG;split
  ·exact Xw
  ·unfold tI;grind[bF,T2,Xr]
  ·exact bF
def eC(st:St)(r:Out):Prop:=(∀ t' st',r=.nx t' st'->st.next<=st'.next)/\(∀ i t' st',r=.ex i t' st'->st.next<=st'.next)/\(∀ t' st',r=.rt t' st'->st.next<=st'.next)
theorem fx:eC st .no:=⟨fun _ _ h=>(Out.noConfusion h),fun _ _ _ h=>(Out.noConfusion h),fun _ _ h=>(Out.noConfusion h)⟩
theorem w8(h:st.next<=st'.next):eC st (.nx t st'):=⟨fun _ _ e=>(by grind),fun _ _ _ e=>(by grind),fun _ _ e=>(by grind)⟩
theorem Pc(h:st.next<=st'.next):eC st (.ex i t st'):=⟨fun _ _ e=>(by grind),fun _ _ _ e=>(by grind),fun _ _ e=>(by grind)⟩
theorem Tl(h:st.next<=st'.next):eC st (.rt t st'):=⟨fun _ _ e=>(by grind),fun _ _ _ e=>(by grind),fun _ _ e=>(by grind)⟩
theorem eC.mono{r:Out}(h:eC st' r)(hs:st.next<=st'.next):eC st r :=
 ⟨fun _ _ e=>Q6 hs (h.1 _ _ e),fun _ _ _ e=>Q6 hs (h.2.1 _ _ _ e),fun _ _ e=>Q6 hs (h.2.2 _ _ e)⟩
theorem Mi{o:Option (Tr AV)}{k:Tr AV->Out}(hk:∀ t,eC st (k t)):eC st (kJ o k):=by unfold kJ;grind[Tr.seen_eq,fx]
theorem WS{r:aR}{k:Tr AV->St->Out}(hr:Up st r)(hk:∀ t st',st.next<=st'.next->eC st (k t st')):eC st (qB nt t d r k):=by
 unfold qB;split
 ·exact Mi fun t=>hk _ _ (hr _ _ rfl)
 ·exact fx
theorem vP{P:Program}{S:Self}(hS:gC S){nt:Nat}{ops:Array Oper}:∀ (l:List Oper) (t:Tr AV) (st:St),eC st (bR P S nt ops l t st)
 |[],t,st=>w8 (Q0 _)
 |o::l,t,st=>by
  show eC st (nJ P S nt o t st (bR P S nt ops l) (gj ops t o))
  unfold nJ;split
  ·exact WS (Jf hS) fun t' st' h=>(vP hS l t' st').mono h
  ·exact Mi fun t'=>vP hS l t' st
  ·exact fx
theorem Gh{o:Out}{k:Tr AV->St->Out}(ho:eC st o)(hk:∀ t st',eC st' (k t st')):eC st (bT o k):=by
 unfold bT;split
 ·exact(hk _ _).mono (ho.1 _ _ rfl)
 grind
theorem abY{x:Ctx}(hS:gC x.S){ps:Array Tmp}{a b:Code}:eC st (rh x ps a b t st v):=by
 unfold rh;split
 ·split
  ·rename_i st' h;have:=PS hS _ _ h;unfold AD;split
   ·refine w8 ?_;have e:(st.new (.lp t x.nt ps.toList a b)).next=st.next+1:=rfl;have e':(st'.drop st.next).next=st'.next:=rfl;omega
   ·exact fx
  ·exact fx
 ·exact fx
theorem Jc{P:Program}{S:Self}(hS:gC S){nt:Nat}{ops:Array Oper}:∀ {l:List Oper}{t:Tr AV}{st:St}{R:List Rec},bI P S nt ops l t st=some R->∀ r∈R,st.next<=r.st.next
 |[],t,st,R,h=>by cases h;grind
 |o::l,t,st,R,h=>by
  have onR:∀ {r:Rec} {st':St} {k:Option (List Rec)},tD r k=some R->r.st=st->st.next<=st'.next->(∀ R',k=some R'->∀ r∈R',st'.next<=r.st.next)->∀ r∈R,st.next<=r.st.next:=by
   intro r st' k hk hr hn hR;cases k with
   |none=>cases hk
   |some R' =>cases hk;grind
  unfold bI at h;split at h
  ·unfold o8 at h;split at h
   ·rename_i v st' hv;unfold lh at h;split at h
    ·exact onR h rfl (Jf hS _ _ hv) fun R' hR'=>Jc hS hR'
    grind
   grind
  ·unfold lh at h;split at h
   ·exact onR h rfl (Q0 _) fun R' hR'=>Jc hS hR'
   grind
  grind
theorem QX:∀ {R:List Rec}{t:Tr AV}{st:St},jo R=.nx t st->∃ r∈R,r.t=t/\r.st=st
 |[],t,st,h=>by cases h
 |[r],t,st,h=>by cases h;grind
 |r::q::l,t,st,h=>by have h:jo (q::l)=.nx t st:=h;obtain⟨x,hx,k⟩:=QX h;grind
theorem JB:∀ (R:List Rec),jo R=.no\/∃ t st,jo R=.nx t st
 |[]=>.inl rfl
 |[r]=>.inr ⟨_,_,rfl⟩
 |r::q::l=>JB (q::l)
theorem Cu(hS:gC S){l:List Oper}{R:List Rec}(hR:bI P S nt ops l t st=some R):eC st (jo R):=by
 rcases JB R with h|⟨t',st',h⟩
 ·rw[h];exact fx
 ·rw[h];obtain⟨r,hr,_,rfl⟩:=QX h;exact w8 (Jc hS hR r hr)
theorem abw(hS:gC S){l:List Oper}{fl:List (Nat× Nat)}:eC st (nD P S ops fl (bI P S nt ops l t st)):=by unfold nD;grind[fx,Cu]
theorem XJ(hS:gC S):eC st (Ad P S nt t st m):=by
 cases m with
 |none=>exact fx
 |some m=>exact abw hS
theorem WO(hS:gC S):eC st (wC P S nt ops t st m):=by
 cases m with
 |some m =>
  show eC st (Ad P S nt t st (some m))
  exact XJ hS
 |none =>
  show eC st (yE P S nt t st (qE ops))
  cases qE ops with
  |none=>exact fx
  |some m =>
   show eC st (Ai P S m (bI P S nt m.m.pops m.m.pops.toList t st) (bI P S nt (fp m.k m.m.pops) (fp m.k m.m.pops).toList t st))
   cases hA:bI P S nt m.m.pops m.m.pops.toList t st with
   |none=>exact fx
   |some RA =>
    cases bI P S nt (fp m.k m.m.pops) (fp m.k m.m.pops).toList t st with
    |none=>exact fx
    |some RB =>grind[Ai,fx,Cu]
theorem Xj(hS:gC S){m:Option yy}:eC st (vU P S nt ops t st m):=by
 unfold vU;split
 ·rename_i m;unfold Gy;split
  ·rename_i R hR;cases hc:m.fl.all (recheck P S m.aops R) with
   |false=>exact fx
   |true =>
    split
    ·rename_i es hk;have hl:=Cu hS hR;rcases JB R with h|⟨t',st',h⟩
     ·rw[h];exact fx
     ·rw[h]at hl|-;have hn:=hl.1 _ _ rfl;show eC st (Cv P S nt ops m.h es st' (eN nt t' (some m.d) (.m st'.next)))
      unfold Cv;split
      ·rw[Tr.seen_eq];refine(vP hS _ _ _).mono ?_;have:(st'.new (.mu es)).next=st'.next+1:=rfl;omega
      ·exact fx
    ·exact fx
  ·exact fx
 ·exact WO hS
theorem SK{x:Ctx}(hS:gC x.S):eC st (kc x ops t st):=by
 unfold kc xf;split
 ·unfold nD;grind[fx,Cu]
 ·exact Xj hS
theorem HD{body:Tr AV->St->Out}(hb:∀ t st,eC st (body t st)):∀ (n:Nat) (t:Tr AV) (st:St),eC st (bf body n t st)
 |0,_,_=>fx
 |n+1,t,st=>Gh (hb t st) (fun t st'=>HD hb n t st')
theorem jd:∀ (c:Code) (x:Ctx),gC x.S->∀ (t:Tr AV) (st:St),eC st (ao c x t st):=by
 intro c;induction c with
 |skip=>intro x hS t st;exact w8 (Q0 _)
 |region id ops draw =>
  intro x hS t st;cases draw
  ·exact vP hS _ t st
  ·exact SK hS
 |seq a b iha ihb=>intro x hS t st;exact Gh (iha x hS t st) (ihb x hS)
 |cond c a b iha ihb =>
  intro x hS t st;show eC st (su (ao a x) (ao b x) t st (ai t c))
  grind[su,fx]
 |block id b ih =>
  intro x hS t st;show eC st (qk id (ao b x t st))
  have h:=ih x hS t st;unfold qk;split
  ·rename_i i t' st' e;rw[e]at h;have:=h.2.1 _ _ _ rfl;cases J3 i id
   ·exact Pc this
   ·exact w8 this
  grind
 |loop b ih=>intro x hS t st;exact HD (ih x hS) x.n t st
 |rangeFunc f ps a b iha ihb =>
  intro x hS t st;show eC st (_root_.cond x.inR .no (rh x ps a b t st (ai t f)))
  grind[abY,fx]
 |exit id=>intro x hS t st;exact Pc (Q0 _)
 |scope b ih=>intro x hS t st;exact fx
 |label l=>intro x hS t st;exact w8 (Q0 _)
 |goto l=>intro x hS t st;exact fx
 |ret=>intro x hS t st;exact Tl (Q0 _)
 |refuse w=>intro x hS t st;exact fx
theorem abc{x:Ctx}(hS:gC x.S){o:Out}(ho:eC st o):eC st (Aq x v o):=by
 have hd:∀ (t:Tr AV) (st1:St),st.next<=st1.next->eC st (pQ x t st1 v):=by
  intro t st1 h;unfold pQ;split
  ·unfold HE;split
   ·rename_i e;refine w8 (Q6 h ?_);unfold Ef FZ at e;split at e
    ·split at e
     ·exact hS.dcall _ _ _ _ _ e
     grind
    grind
   ·exact fx
  ·exact fx
 unfold Aq;split
 ·exact hd _ _ (ho.1 _ _ rfl)
 ·exact hd _ _ (ho.2.2 _ _ rfl)
 ·exact fx
theorem Oq{x:Ctx}(hS:gC x.S):∀ (n:Nat) (c:Code) (t:Tr AV) (st:St),eC st (tN x n c t st):=by
 intro n;induction n with
 |zero =>intro c t st;exact jd c x hS t st
 |succ n ih =>
  intro c t st;cases c with
  |seq a b =>
   unfold tN;split
   ·rename_i ops h d f _;have ho:=vP hS (nt:=x.nt) (ops:=ops) (P:=x.P) h t st;unfold AT;split
    ·rename_i t1 st1 e;rw[e]at ho;unfold Ip;split
     ·rw[Tr.seen_eq];exact abc hS ((jd b x hS _ _).mono (ho.1 _ _ rfl))
     ·exact fx
    ·exact fx
   grind[Gh,jd]
  |skip=>exact jd .skip x hS t st
  |region id ops dr=>exact jd (.region id ops dr) x hS t st
  |cond o a b=>exact jd (.cond o a b) x hS t st
  |block id a=>exact jd (.block id a) x hS t st
  |loop a=>exact jd (.loop a) x hS t st
  |rangeFunc f ps a b=>exact jd (.rangeFunc f ps a b) x hS t st
  |exit id=>exact jd (.exit id) x hS t st
  |scope a=>exact jd (.scope a) x hS t st
  |label l=>exact jd (.label l) x hS t st
  |goto l=>exact jd (.goto l) x hS t st
  |ret=>exact jd .ret x hS t st
  |refuse why=>exact jd (.refuse why) x hS t st
theorem abQ{x:Ctx}(hS:gC x.S)(c:Code)(t:Tr AV)(st:St):eC st (ui x c t st):=by
 unfold ui;cases defers 4 c
 ·exact jd c x hS t st
 ·exact Oq hS 4 c t st
theorem Dt(hS:gC S):Up st (ke P S n f as st):=by
 have res:∀ {l:List ResultVar} {t:Tr AV} {st':St},st.next<=st'.next->Up st (oj P l t st'):=by intro l t st' h;unfold oj;split<;>first|exact bF|(intro v s e;grind)
 unfold ke;split
 ·exact bF
 ·rename_i fn _;split
  ·exact bF
  ·rename_i c _;refine qe bF ?_;have h:=abQ (x:=⟨P,S,false,fn.ntmps,n⟩) hS c (tmpsOf as 0 .lf) st;unfold eE;split
   ·rename_i e;exact res (h.1 _ _ e)
   ·rename_i e;exact res (h.2.2 _ _ e)
   ·exact bF
theorem Ak(P:Program):∀ n,gC (self P n)
 |0=>⟨fun _ _ _=>bF,fun _ _ _ _=>fx,fun _ _ _=>bF⟩
 |n+1=>⟨fun _ _ _=>Dt (Ak P n),fun nt c t st=>jd c ⟨P,self P n,true,nt,n⟩ (Ak P n) t st,fun _ _ _=>Dt (Ak P n)⟩
def yP(P:Program)(kind:CallKind)(cs:List Frame)(f:FuncId)(args:Array Value)(w w':World)(v:Value):Prop :=
 ∃ fr,Steps P (lone (J6 P f args kind) cs w) (lone fr cs w')/\fr.fn=f/\fr.kind=kind/\fr.going P w' (.returned v)
def lQ(P:Program)(cs:List Frame)(f:FuncId)(args:Array Value)(w w':World)(v:Value):Prop :=
 ∃ fr,Steps P (lone (J6 P f args .normal) cs w) (lone fr cs w')/\fr.fn=f/\fr.leaving P w' (.returned v)
theorem yP.to{args:Array Value}{v:Value}(h:yP P .normal cs f args w w' v):lQ P cs f args w w' v:=by obtain⟨fr,h1,h2,h3,h4,h5,h6⟩:=h;exact⟨fr,h1,h2,h4,h5,h3,h6⟩
def nO(n0:Nat)(E:Env)(H:Array Obj)(st:St)(ds:List Deferred):Prop :=
 ds.Pairwise (·≠·)/\∀ d∈ds,∃ r,n0<=r/\d={ target:=.collected r,args:=#[] }/\H[r]? = some (.deferred (some []))/\Un E st r
theorem nO.step(h:nO n0 E H st ds)(hs:Step E E' H H' st st'):nO n0 E' H' st' ds:=by refine⟨h.1,fun d hd=>?_⟩;obtain⟨r,h0,rfl,hr,hn⟩:=h.2 d hd;have hlt:r<H.size:=(V0.1 hr).1;exact⟨r,h0,rfl,by rw[hs.fr.keep r hlt hn.1];grind,hs.un hlt hn⟩
def Marks(n0:Nat)(D:List Deferred)(E:Env)(H:Array Obj)(st:St)(ds:List Deferred):Prop :=
 ∃ ms,ds=ms++D/\nO n0 E H st ms
theorem Marks.step{n0:Nat}{D:List Deferred}{E E':Env}{H H':Array Obj}{st st':St}{ds:List Deferred}(h:Marks n0 D E H st ds)(hs:Step E E' H H' st st'):Marks n0 D E' H' st' ds:=by obtain⟨ms,h1,h2⟩:=h;exact⟨ms,h1,h2.step hs⟩
theorem Marks.nil{n0:Nat}{D:List Deferred}{E:Env}{H:Array Obj}{st:St}:Marks n0 D E H st D:=⟨[],rfl,Y2,fun _ h=>by grind⟩
def dF(P:Program)(cs:List Frame)(n0:Nat)(E:Env)(nt:Nat)(b:Frame)(w:World)(st:St)(m:Machine)(k:List Item):Out->Prop
 |.nx t st'=>∃ E' a' w',bt E E' w w' st st'/\cJ E' nt t a'.tmps/\Marks n0 b.defers E' w'.heap st' a'.defers/\Steps P m (lone (b.atR a' k) cs w')
 |.ex id t st'=>∃ E' a' w',bt E E' w w' st st'/\cJ E' nt t a'.tmps/\Marks n0 b.defers E' w'.heap st' a'.defers/\∀ k',exitTo id k=some k'->Steps P m (lone (b.atR a' k') cs w')
 |.rt t st'=>b.roundOf=none->∃ E' a' w' todo,bt E E' w w' st st'/\cJ E' nt t a'.tmps/\Marks n0 b.defers E' w'.heap st' a'.defers/\Steps P m (lone { b.atR a' todo with mode:=.returning } cs w')
 |.no=>True
def As (P:Program):Prop:=∀ (f:Nat) (fn:Func),P.funcs[f]? = some fn->(fn.name == "runtime.NumGoroutine")=false
theorem IE(h:cJ E nt t a.tmps){r:Bool}(hg:gj ops t o=some r):Q1 o (yielded ops a.tmps)=r:=by
 unfold gj at hg;unfold Q1;split at hg
 ·grind
 ·rename_i j want ho;rw[ho];simp only;unfold rH at hg;split at hg
  ·rename_i g hj;split at hg
   ·rename_i d hd;have hc:=h.2 d;unfold yielded;rw[hj];simp[hd];unfold ab at hc;have hget:∀ v:Value,a.tmps.getD d undef=v->v≠undef->a.tmps[d]? = some v:=by
     intro v e hv;rw[J1]at e;grind
    have hund:a.tmps.getD d undef=undef->∀ y,a.tmps[d]? = some y->y=undef:=by intro e y hx;simp_all
    cases ht:t.get d with
    |none =>rw[ht]at hg hc;cases hg;generalize hv:a.tmps.getD d undef=v at hc;cases hc;grind[undef]
    |some x =>
     rw[ht]at hg hc;unfold BO at hg;simp only at hg;cases hb:x.gV with
     |some bb =>have:=AV.zi hb;subst this;generalize hv:a.tmps.getD d undef=v at hc;cases hc;rw[hget _ hv (by simp[undef])];simp_all
     |none =>
      rw[hb]at hg;cases hu:x.Ge with
      |false=>grind
      |true =>have:=AV.Sk hu;subst this;generalize hv:a.tmps.getD d undef=v at hc;cases hc;grind[undef]
   grind
  grind
theorem vH(h:cJ E nt t a.tmps)(hp:eN nt t d v=some t'){z:Value}(hc:Conc E v z):cJ E nt t' (a.put d z).tmps:=by
 cases d with
 |none=>cases hp;exact h
 |some d =>
  obtain⟨hlt,hp⟩:=eY hp;rw[AV.seen_eq]at hp;cases hp;have hlt':d<nt:=by simp_all
  refine⟨by simpa[J8]using h.1,fun x=>?_⟩;unfold ab;rw[Tr.eh];simp[J8];by_cases e:x=d
  ·have:x<a.tmps.size:=by rw[h.1];grind
   grind
  ·have:=h.2 x;grind[ab,J1]
def Out.lim(n:Nat):Out->Prop
 |.nx _ st=>st.next<=n
 |.ex _ _ st=>st.next<=n
 |.rt _ st=>st.next<=n
 |.no=>True
structure cq(P:Program)(S:Self):Prop where
 ng:As P
 mixed:P.follows .mixedOrders=true
 up:gC S
 call:∀ {ks:List Frame} {E:Env} {w:World} {st st':St} {f:FuncId} {as:List AV} {us:List Value} {v:AV},Rel E w.heap st->aP E as us->S.call f as st=some (v,st')->st'.next<=E.top->
  ∃ E' w' cv,lQ P ks f us.toArray w w' cv/\bt E E' w w' st st'/\Conc E' v cv
 code:∀ {ks:List Frame} {E:Env} {w:World} {st:St} {nt:Nat} {c:Code} {t:Tr AV} {a:Act} {b:Frame} (k:List Item),b.roundOf.isSome=true->Rel E w.heap st->cJ E nt t a.tmps->Marks 0 b.defers E w.heap st a.defers->
  (S.code nt c t st).lim E.top->dF P ks 0 E nt b w st (lone (b.atR a (.code c::k)) ks w) k (S.code nt c t st)
 dcall:∀ {ks:List Frame} {E:Env} {w:World} {st st':St} {f:FuncId} {as:List AV} {us:List Value} {v:AV},Rel E w.heap st->aP E as us->S.dcall f as st=some (v,st')->st'.next<=E.top->
  ∃ E' w' cv,yP P .deferred ks f us.toArray w w' cv/\bt E E' w w' st st'/\Conc E' v cv
theorem DS{l:Nat}{r:Loop}(h:w.heap[l]? = some (.loop r)):(V1 l).run P w=.ok r w:=by simp[V1,getObj,Sem.run,h]
theorem GN{l:Nat}{r:Loop}(h:w.heap[l]? = some (.loop r))(o:Obj):(setObj l o).run P w=.ok () { w with heap:=w.heap.setIfInBounds l o }:=by simp[setObj,Sem.run,h]
def acK(P:Program)(w w':World)(cv:Value)(r:Result Next):Prop :=
 ∃ cases bl sh,r=.ok (.comm cases bl sh) w/\∀ (fr:Frame) (cs:List Frame) (es:Array Event),stepG P true (_root_.Go.Conc.G fr cs) w=.comm (_root_.Go.Conc.G fr cs) cases bl sh w es->step P (lone fr cs w)=.next (lone (fr.finish cv) cs w')
def qX(P:Program)(fc:Frame)(ks:List Frame)(E:Env)(w:World)(st st':St)(v:AV)(r:Result Next):Prop :=
 ∃ E' w' cv,bt E E' w w' st st'/\Conc E' v cv/\
  ((r=.ok (.value cv) w'\/(r=.ok .skip w'/\cv=undef))\/(∃ f args,r=.ok (.enter f args) w/\lQ P (fc::ks) f args w w' cv)\/
   (∃ l f tmps x y,r=.ok (.round l f tmps x y) w/\Steps P (lone (Z8 l f tmps x y .normal) (fc::ks) w) (lone (fc.finish cv) ks w'))\/acK P w w' cv r)
theorem rZ.c{r:Result Next}(h:rZ E w st st' v r):qX P fc ks E w st st' v r:=by obtain⟨E',w',cv,h1,h2,h3⟩:=h;exact⟨E',w',cv,h2,h3,.inl h1⟩
theorem JK(hS:cq P S)(hr:Rel E w.heap st)(hc:aP E as us)(h:qA P S f as st=some (v,st'))(hn:st'.next<=E.top):
  ∃ E' w' cv,bt E E' w w' st st'/\Conc E' v cv/\(callFunc f us.toArray).run P w=.ok (.enter f us.toArray) w/\lQ P ks f us.toArray w w' cv:=by
 unfold qA at h;split at h
 ·rename_i fn hf;unfold Dl at h;split at h
  ·rename_i c hb;obtain⟨E',w',cv,h1,h2,h3⟩:=hS.call hr hc h hn;refine⟨E',w',cv,h2,h3,?_,h1⟩;have hng':fn.name≠ "runtime.NumGoroutine":=by simpa using hS.ng f fn hf
   simp[callFunc,hf,hng',hb]
  grind
 grind
theorem P5{c:Nat}:∀ (l:List Nat) (n:Nat),upto c l n=((Q7 n l.length).find? fun i=>l[i-n]? == some c)
 |[],n=>rfl
 |x::l,n=>by
  have e:upto c (x::l) n=@Bool.rec (fun _=>Option Nat) (upto c l (n+1)) (some n) (J3 x c):=rfl;rw[e,P5 l (n+1)];simp only[List.length_cons,J9,V2,Nat.sub_self,List.getElem?_cons_zero];cases hb:J3 x c with
  |true =>
   have:x=c:=by simpa[bu]using hb
   subst this;simp
  |false =>
   have:¬ x=c:=by rw[bu]at hb;simpa using hb
   have hx:(some x==some c)=false:=by simpa using this
   simp[hx];have hc:∀ (m:Nat) (k:Nat),n+1<=k->((Q7 k m).find? fun i=>l[i-(n+1)]? == some c)=(Q7 k m).find? fun i=>(x::l)[i-n]? == some c:=by
    intro m;induction m with
    |zero=>intro k _;rfl
    |succ m ih =>
     intro k hk;simp[J9,V2];rw[ih (k+1) (by omega)];have:(x::l)[k-n]? = l[k-(n+1)]?:=by rw[show k-n=(k-(n+1))+1 by omega];simp
     rw[this]
   exact hc l.length (n+1) (Q0 _)
theorem Xs (h1:fn.name = "internal/bytealg.IndexByteString") (h2:fn.origin = ""):V3 fn=none/\V4 fn=some V6:=by
 have a1:Extern.allGenericRows.lookup "internal/bytealg.IndexByteString"=none:=by kernel_rfl
 have a2:Extern.allTypedRows.lookup "internal/bytealg.IndexByteString"=none:=by kernel_rfl
 have a3:Extern.allRows.lookup "internal/bytealg.IndexByteString"=some V6:=by kernel_rfl
 have a4:V7.lookup "internal/bytealg.IndexByteString"=none:=by kernel_rfl
 have a5:V7.lookup ""=none:=by kernel_rfl
 grind[V3,V4]
theorem aci(bs:ByteArray){c:Nat}(hc:c<256):firstIdx bs c.toUInt8=(match upto c (bs.data.toList.map UInt8.toNat) 0 with|some n=>Z3 n|none=>-1):=by
 unfold firstIdx;rw[P5];have e:((List.range bs.size).find? fun i=>bs[i]! == c.toUInt8)=((Q7 0 (bs.data.toList.map UInt8.toNat).length).find? fun i=>(bs.data.toList.map UInt8.toNat)[i-0]? == some c):=by
  rw[List.range_eq_range',show(bs.data.toList.map UInt8.toNat).length=bs.size by simp_all];have key:∀ (l:List Nat),(∀ i∈l,i<bs.size)->(l.find? fun i=>bs[i]! == c.toUInt8)=l.find? fun i=>(bs.data.toList.map UInt8.toNat)[i-0]? == some c:=by
   intro l hl;induction l with
   |nil=>rfl
   |cons i l ih =>
    have hi:=hl i (Z4 ..);have hp:(bs[i]! == c.toUInt8)=((bs.data.toList.map UInt8.toNat)[i-0]? == some c):=by
     have hi':i<bs.data.size:=hi;have h1:bs[i]! = bs.data[i]:=by rw[getElem!_pos bs i hi];rfl
     have h3:((bs.data[i]).toNat==c)=(bs.data[i]==c.toUInt8):=by
      rw[Bool.eq_iff_iff];simp;constructor
      ·intro h;apply UInt8.toNat_inj.1;rw[h];simp[V8 hc]
      ·intro h;rw[h];simp[V8 hc]
     grind
    grind
  grind
 grind
theorem Ul (hng:(fn.name == "runtime.NumGoroutine")=false) (hf:P.funcs[f]? = some fn) (hb:fn.body=none) (hr:Rel E w.heap st) (hc:aP E as us) (hnm:fn.name = "internal/bytealg.IndexByteString"/\fn.origin = "") (h:DG st as=some (v,st')):
  qX P fc ks E w st st' v ((callFunc f us.toArray).run P w):=by
 obtain⟨k1,k2⟩:=Xs hnm.1 hnm.2;have hrun:=fun args=>run_callFunc_extern hf hng (by grind) k1 k2 args w
 unfold DG at h;split at h
 case h_2=>grind
 rename_i l c;obtain⟨hlt,h⟩:=eY h;have hlt':c<256:=by simp_all
 cases hc with
 |cons _ _ u us hu ht =>
  cases ht with
  |cons _ _ u2 us2 hu2 ht2 =>
   cases ht2;cases hu;cases hu2;rename_i bs hh2;have h1:=run_indexByte_string (P:=P) bs (Z3 c) w;have h2:(Z3 c).toNat.toUInt8=c.toUInt8:=rfl;rw[h2,aci bs hlt']at h1;unfold Ig at h;split at h
   ·cases h;exact rZ.c ⟨E,w,_,.inl (by simp_all),.refl hr,.i _ _⟩
   ·cases h;exact rZ.c ⟨E,w,_,.inl (by simp_all),.refl hr,.i _ _⟩
theorem aaq (hng:(fn.name == "runtime.NumGoroutine")=false) (hf:P.funcs[f]? = some fn) (hb:fn.body=none) (hr:Rel E w.heap st) (hc:aP E as us) (h:BT fn st as=some (v,st')):
  qX P fc ks E w st st' v ((callFunc f us.toArray).run P w):=by
 grind[BT,eY,Ul]
theorem Tq(hS:cq P S)(hr:Rel E w.heap st)(hc:aP E as us)(h:nj P S f as st=some (v,st'))(hn:st'.next<=E.top):
  qX P fc ks E w st st' v ((callFunc f us.toArray).run P w):=by
 unfold nj at h;split at h
 case h_2=>grind
 rename_i fn hf;unfold gN at h;split at h
 ·have h0:qA P S f as st=some (v,st'):=by
   grind[qA,Dl]
  obtain⟨E',w',cv,h1,h2,h3,h4⟩:=JK hS hr hc h0 hn;exact⟨E',w',cv,h1,h2,.inr (.inl ⟨f,us.toArray,h3,h4⟩)⟩
 ·rename_i hb;exact aaq (hS.ng f fn hf) hf hb hr hc h
theorem N8{nt:Nat}:∀ {ps:List Tmp}{vs:List AV}{us:List Value}{t t':Tr AV}{a:Array Value},Ew nt ps vs t=some t'->aP E vs us->cJ E nt t a->
  ps.length=us.length/\cJ E nt t' ((ps.zip us).foldl (fun tmps (x:Tmp× Value)=>tmps.setIfInBounds x.1 x.2) a)
 |[],[],us,t,t',a,h,hc,ha=>by cases hc;cases h;simp_all
 |p::ps,v::vs,us,t,t',a,h,hc,ha=>by
  cases hc with
  |cons _ _ u us hu hus =>obtain⟨hlt,h⟩:=eY h;have:=vH (a:={ tmps:=a,defers:=[] }) (d:=some p) ha (by show(@Bool.rec (fun _=>Option (Tr AV)) none (v.seen fun v=>some (t.set p (some v))) (Nat.blt p nt))=_;rw[hlt,AV.seen_eq]) hu;obtain⟨k1,k2⟩:=N8 h hus this;exact⟨by simp[k1],by simpa[J8]using k2⟩
 |[],_::_,us,t,t',a,h,hc,ha=>by cases h
 |_::_,[],us,t,t',a,h,hc,ha=>by cases h
theorem Xl(hS:cq P S)(hr:Rel E w.heap st){l:Nat}{B:fy}(hB:E.phi l=some B)(hc:aP E as us)(h:round S l as st=some (v,st'))(hn:st'.next<=E.top):
  qX P fc ks E w st st' v ((V9 B.b us.toArray).run P w):=by
 unfold round at h;split at h
 case h_2=>grind
 rename_i t nt ps x y hg;split at h
 case h_2=>grind
 rename_i t' ht;have ha:st.alive l=some (.lp t nt ps x y):=by unfold St.alive;grind
 obtain⟨B',hB',f,tmps,d,hH,hT⟩:=hr.rows _ _ ha;rw[hB]at hB';cases hB';have hce:∀ l' g,Row.lp t nt ps x y≠.ce l' g:=fun _ _ e=>by grind
 have hun:=P9 hr ha hce hB;have hs1:=Step.drop hr l;have hlt:B.b<w.heap.size:=(V0.1 hH).1;obtain⟨hlen,hT'⟩:=N8 ht hc hT;unfold GW at h;split at h
 case h_2=>grind
 rename_i t2 st2 h2;unfold Dr at h;split at h
 case h_2=>grind
 rename_i t3 st3 h3;cases h;have hn3:st3.next<=E.top:=hn;have hup:=(hS.up.code nt y t2 st2).1 _ _ h3;have hup2:=(hS.up.code nt x t' (st.drop l)).1 _ _ h2;have hup2':st.next<=st2.next:=hup2
 let tmps':=(ps.zip us).foldl (fun tmps (x:Tmp× Value)=>tmps.setIfInBounds x.1 x.2) tmps
 let fb:Frame:={ fn:=f,tmps:=tmps',todo:=[],defers:=[],mode:=.run,kind:=.normal,roundOf:=some B.b }
 have hmk:Marks 0 fb.defers E w.heap (st.drop l) []:=Marks.nil;have hl2:(S.code nt x t' (st.drop l)).lim E.top:=by rw[h2];exact(by show st2.next<=E.top;omega)
 have hA:=hS.code (ks:=fc::ks) (st:=st.drop l) (nt:=nt) (a:={ tmps:=tmps',defers:=[] }) (b:=fb) [.beginRound,.code y] rfl hs1.rel hT' hmk hl2;simp[h2,dF]at hA;obtain⟨E2,a2,w2,s2,c2,m2,g2⟩:=hA;have hk2:w2.heap[B.b]? = _:=(s2.fr.keep _ hlt hun.1).trans hH;have hs2:bt E E2 w w2 st st2:=⟨hs1.trans s2.toStep,s2.os,s2.out⟩;have hun2:Un E2 st2 B.b:=s2.un hlt hun;have how:mw E st B.b:=⟨l,_,B,ha,hB,rfl⟩
 let jq:Obj:=.loop { state:=.busy,pending:=none,fn:=f,tmps,params:=ps.toArray,assign:=x,body:=y,defers:=d }
 let w2':World:={ w2 with heap:=w2.heap.setIfInBounds B.b jq }
 have hs2':bt E E2 w w2' st st2:=⟨hs2.toStep.zA (.inl how) hun2 jq (fI.yj (by grind)),s2.os,s2.out⟩;have hbeg:(X0 B.b).run P w2=.ok () w2':=by simp[X0,Q3,DS hk2,Q4,GN hk2,w2',jq]
 have hk2':w2'.heap[B.b]? = some jq:=by grind
 have hmk2:Marks 0 fb.defers E2 w2'.heap st2 a2.defers:=by obtain⟨ms,hms,m2⟩:=m2;refine⟨ms,hms,m2.1,fun e he=>?_⟩;obtain⟨r,h0,h1,h2,h3⟩:=m2.2 e he;grind
 have hl3:(S.code nt y t2 st2).lim E2.top:=by rw[h3,s2.top];exact hn3
 have hA3:=hS.code (ks:=fc::ks) (w:=w2') (st:=st2) (nt:=nt) (c:=y) (t:=t2) (a:=a2) (b:=fb) [] rfl hs2'.rel c2 hmk2 hl3;simp[h3,dF]at hA3;obtain⟨E3,a3,w3,s3,c3,m3,g3⟩:=hA3;have hlt2':B.b<w2'.heap.size:=by grind
 have hk3:w3.heap[B.b]? = some jq:=(s3.fr.keep _ hlt2' hun2.1).trans hk2';have hun3:Un E3 st3 B.b:=s3.un hlt2' hun2;have hlt3:B.b<w3.heap.size:=Nat.lt_of_lt_of_le hlt2' s3.fr.size
 let lp0:Obj:=.loop { state:=.ready,pending:=none,fn:=f,tmps,params:=ps.toArray,assign:=x,body:=y,defers:=d }
 let w4:World:={ w3 with heap:=w3.heap.setIfInBounds B.b lp0 }
 have hend:(X4 B.b none).run P w3=.ok (.bool true) w4:=by simp[X4,Q3,DS hk3,Q4,GN hk3,w4,lp0]
 have hs4:bt E E3 w w4 st st3:=⟨(hs2'.trans s3).toStep.zA (.inl how) hun3 lp0 (fI.yj (fun _ _ _ e=>by grind)),(hs2'.trans s3).os,(hs2'.trans s3).out⟩;have hB3:E3.phi l=some B:=(hs2'.trans s3).le.phi _ _ hB;have hs5:bt E E3 w w4 st (st3.put l (.lp t nt ps x y)):=by
  refine⟨hs4.toStep.Vp hce ?_ hB3 ⟨f,tmps,d,?_,hT.mono (hs2'.trans s3).le⟩ (.inl how) hun3,hs4.os,hs4.out⟩
  ·have:l<st.next:=hr.BD ha;omega
  grind
 refine⟨E3,w4,.bool true,hs5,.b true,.inr (.inr (.inl ⟨B.b,f,tmps',x,y,?_,?_⟩))⟩
 ·have hsz:us.length=ps.length:=hlen.symm;simp[V9,Q3,DS hH,Q4,hsz,tmps']
 ·refine g2.trans ?_;refine(Q2 (stepR_beginRound rfl hbeg)).trans ?_;refine g3.trans ?_;grind[Q2,stepR_round_end]
theorem Uq(hS:cq P S)(hr:Rel E w.heap st)(hx:Conc E x u)(hc:aP E as us)(h:tI P S st as x=some (v,st'))(hn:st'.next<=E.top):
  qX P fc ks E w st st' v ((do let d <-Z5 u us.toArray;invoke d.target d.args:Sem Next).run P w):=by
 unfold tI at h;split at h
 ·cases hx with
  |f _ _ _ vx vy _ hvx hvy =>have:=Tq (fc:=fc) (ks:=ks) hS hr (hvx.append (hc.append hvy)) h hn;grind[Z5,invoke]
 ·cases hx with
  |f _ _ _ _ _ hy _ _=>cases hy
  |yi _ B hB =>grind[Xl,Z5,invoke]
 grind
theorem Gi(hS:cq P S)(h:Rel E w.heap st)(hρ:∀ x,Conc E (ai t x) (ρ x))(ho:da P S t st o=some (v,st'))(hn:st'.next<=E.top):
  qX P fc ks E w st st' v ((execOp ρ o).run P w):=by
 cases hc:EY o.op with
 |false=>exact(acF h hρ ho hn hc).c
 |true =>
  unfold EY at hc;split at hc
  case h_2=>grind
  rename_i c hop;unfold da at ho;rw[hop]at ho;have ho:sG c P S t st=some (v,st'):=ho;unfold sG at ho;simp only[execOp,hop,resolve];have ha:aP E (args t c.args.toList) (c.args.toList.map ρ):=vp hρ c.args.toList;grind[Uq,yN]
theorem Ea(ho:ops[i]? = some o)(hw:Q1 o (yielded ops a.tmps)=true)(hd:∀ c,o.op≠.defer c)(h:qX P (b.atR a (.inRegion ops (i::rest)::k)) ks E w st st' v ((execOp a.eval o).run P w)):
  ∃ E' w' cv,bt E E' w w' st st'/\Conc E' v cv/\Steps P (lone (b.atR a (.inRegion ops (i::rest)::k)) ks w) (lone (b.atR (a.put o.dst cv) (.inRegion ops rest::k)) ks w'):=by
 obtain⟨E',w',cv,hs,hc,h⟩:=h;refine⟨E',w',cv,hs,hc,?_⟩;have hf:=J5 b a ops i rest k cv;rcases h with (h|⟨h,rfl⟩)|⟨f,as,h,hcall⟩|⟨l,f,tmps,x,y,h,hround⟩|⟨cases,bl,sh,h,htell⟩
 ·exact Q2 (BS ho hw hd h)
 ·grind[Q2,Ix]
 ·refine(Q2 (QL ho hw hd h)).trans ?_;obtain⟨fr,h1,h2,h3⟩:=hcall;refine h1.trans ?_;grind[Q2,step_leave_returned]
 ·refine(Q2 (Mh ho hw hd h)).trans ?_;grind
 ·obtain⟨es,he⟩:=stepG_comm (b:=b) (k:=k) (cs:=ks) (rest:=rest) ho hw hd h;grind[Q2]
theorem EH(ho:da P S t st o=some (v,st')):∀ c,o.op≠.defer c:=by intro c hop;unfold da at ho;rw[hop]at ho;cases ho
theorem put_defers(a:Act)(d:Option Tmp)(v:Value):(a.put d v).defers=a.defers:=by cases d<;>rfl
theorem PA{acc:List Nat}:∀ {l:List Edge}{m:Nat},ahead acc l=some m->
  (∀ e∈l,Q8 .any e=true->e.on<acc.length)/\∀ i,m.testBit i=true->∃ e∈l,Q8 .any e=true/\(i=e.on\/(bh acc e.on).testBit i=true)
 |[],m,h=>by cases h;grind
 |e::l,m,h=>by
  unfold ahead at h;cases ha:ahead acc l with
  |none=>grind
  |some m' =>
   rw[ha]at h;obtain⟨h1,h2⟩:=PA ha;cases hb:Q8 .any e with
   |false =>grind
   |true =>
    rw[hb]at h;cases hk:acc[e.on]? with
    |none=>grind
    |some k =>
     rw[hk]at h;cases h;refine⟨fun x hx hbx=>?_,fun i hi=>?_⟩
     ·grind
     ·have hi':(m' ||| (2 ^ e.on ||| k)).testBit i=true:=hi;grind[bh]
theorem Ee:∀ {l:List Oper}{acc bs:List Nat},lG l acc=some bs->bs.length=acc.length+l.length/\(∀ i,i<acc.length->bs[i]? = acc[i]?)/\
  ∀ j o,l[j]? = some o->(∀ e∈o.after,Q8 .any e=true->e.on<acc.length+j)/\
   ∀ i,(bh bs (acc.length+j)).testBit i=true->∃ e∈o.after,Q8 .any e=true/\(i=e.on\/(bh bs e.on).testBit i=true)
 |[],acc,bs,h=>by cases h;grind
 |o::l,acc,bs,h=>by
  unfold lG at h;cases ha:ahead acc o.after.toList with
  |none=>grind
  |some m =>
   rw[ha]at h;obtain⟨h1,h2,h3⟩:=Ee h;obtain⟨k1,k2⟩:=PA ha;have hpre:∀ i,i<acc.length->bs[i]? = acc[i]?:=fun i hi=>by grind
   refine⟨by grind,hpre,fun j x hx=>?_⟩;cases j with
   |zero =>
    have:o=x:=by simpa using hx
    subst this;refine⟨fun e he hb=>k1 e (by simpa using he) hb,fun i hi=>?_⟩;have hm:bs[acc.length]? = some m:=by rw[h2 _ (by simp)];simp
    rw[Nat.add_zero]at hi;unfold bh at hi;rw[hm]at hi;obtain⟨e,he,hb,hh⟩:=k2 i hi;refine⟨e,by simpa using he,hb,hh.imp id fun hh=>?_⟩;have:=k1 e he hb;unfold bh at hh|-;rw[hpre _ this];exact hh
   |succ j =>
    have hx':l[j]? = some x:=by simpa using hx
    have:=h3 j x hx';grind
theorem NG{ops:Array Oper}{bs:List Nat}{y:Oper}{bj:Nat}:∀ {l:List Oper}{k:Nat},zU ops bs y bj l k=true->∀ i x,l[i]? = some x->
  xv ops x y (bj.testBit (k+i))=true/\CW ops bs x y (k+i) (bj.testBit (k+i))=true
 |[],k,h,i,x,hx=>by grind
 |z::l,k,h,i,x,hx=>by
  unfold zU at h;simp at h;cases i with
  |zero =>
   have:z=x:=by simpa using hx
   subst this;simpa using h.1
  |succ i =>
   have:=NG h.2 i x (by simpa using hx);have e:k+1+i=k+(i+1):=by omega
   rw[e]at this;exact this
theorem Gs{ops:Array Oper}{all:List Nat}:∀ {l done:List Oper}{bs:List Nat},vT ops all done l bs=true->∀ j y b,l[j]? = some y->bs[j]? = some b->H3 y.op=false/\zU ops all y b (done++l.take j) 0=true
 |[],done,bs,h,j,y,b,hy,hb=>by grind
 |z::l,done,[],h,j,y,b,hy,hb=>by grind
 |z::l,done,c::bs,h,j,y,b,hy,hb=>by
  unfold vT at h;simp at h;cases j with
  |zero =>
   have e1:z=y:=by simpa using hy
   have e2:c=b:=by simpa using hb
   subst e1;subst e2;simpa using h.1
  |succ j =>have:=Gs h.2 j y b (by simpa using hy) (by simpa using hb);simpa using this
theorem Rk{ops:Array Oper}{y:Oper}{i:Nat}:∀ {l:List Oper}{bs:List Nat},EG ops y i l bs=true->∀ (h:Nat) (o:Oper) (b:Nat),l[h]? = some o->bs[h]? = some b->∀ d,y.dst=some d->d∈o.looksAt ops->b.testBit i=true
 |[],bs,_,h,o,b,ho,hb=>by grind
 |z::l,[],_,h,o,b,ho,hb=>by grind
 |z::l,c::bs,hr,h,o,b,ho,hb=>by
  intro d hd hmem;unfold EG at hr;simp only[Bool.and_eq_true]at hr;cases h with
  |zero =>
   have e1:z=o:=by simpa using ho
   have e2:c=b:=by simpa using hb
   subst e1;subst e2;have:=hr.1;rw[hd]at this;simp only[List.contains_iff_mem.2 hmem,cond_true]at this;exact this
  |succ h=>exact Rk hr.2 h o b (by simpa using ho) (by simpa using hb) d hd hmem
structure o7(ops:Array Oper)(bs:List Nat):Prop where
 nosel:∀ (j:Nat) (o:Oper),ops[j]? = some o->H3 o.op=false
 edge:∀ j o,ops[j]? = some o->∀ e∈o.after,Q8 .any e=true->e.on<j
 bef:∀ j o i,ops[j]? = some o->(bh bs j).testBit i=true->∃ e∈o.after,Q8 .any e=true/\(i=e.on\/(bh bs e.on).testBit i=true)
 pair:∀ i j x y,i<j->ops[i]? = some x->ops[j]? = some y->xv ops x y ((bh bs j).testBit i)=true
 early:∀ i j x y,i<j->ops[i]? = some x->ops[j]? = some y->kind x.op=3->kind y.op=2->(bh bs j).testBit i=false->∀ h o,ops[h]? = some o->∀ d,y.dst=some d->d∈o.looksAt ops->(bh bs h).testBit i=true
theorem settled(hb:lG ops.toList []=some bs)(hd:vT ops bs [] ops.toList bs=true):o7 ops bs:=by
 obtain⟨h1,h2,h3⟩:=Ee hb;have hl:∀ (j:Nat) (o:Oper),ops[j]? = some o->ops.toList[j]? = some o:=fun j o h=>by grind
 have hbs:∀ (j:Nat) (o:Oper),ops[j]? = some o->bs[j]? = some (bh bs j):=fun j o h=>by grind[bh]
 have hp:∀ (i j:Nat) (x y:Oper),i<j->ops[i]? = some x->ops[j]? = some y->xv ops x y ((bh bs j).testBit i)=true/\CW ops bs x y i ((bh bs j).testBit i)=true:=by intro i j x y hij hx hy;have:=(Gs hd j y _ (hl j y hy) (hbs j y hy)).2;have:=NG this i x (by grind);grind
 refine⟨fun j o ho=>(Gs hd j o _ (hl j o ho) (hbs j o ho)).1,fun j o ho e he hb=>by simpa using(h3 j o (hl j o ho)).1 e he hb,fun j o i ho hi=>(h3 j o (hl j o ho)).2 i (by simpa using hi),fun i j x y hij hx hy=>(hp i j x y hij hx hy).1,?_⟩;intro i j x y hij hx hy kx ky hno h o ho d hd hmem;have:=(hp i j x y hij hx hy).2;unfold CW at this;rw[kx,ky,hno]at this;exact Rk this h o _ (hl h o ho) (hbs h o ho) d hd hmem
theorem JD{b p:Nat}:∀ {l:List Nat}{k:Nat},AU b p l k=true->∃ i,l[i]? = some 3/\p<=k+i/\b.testBit (k+i)=true
 |[],k,h=>by simp[AU]at h
 |x::l,k,h=>by
  unfold AU at h;simp at h;rcases h with ⟨h1,h2,h3⟩|h
  ·refine⟨0,?_,by simp_all,by grind⟩;simp_all
  ·obtain⟨i,k1,k2,k3⟩:=JD h;exact⟨i+1,by grind,by omega,by grind⟩
theorem IX{p j:Nat}:∀ {l:List Nat}{k:Nat},calm p j l k=true->∀ i x,l[i]? = some x->p<=k+i->k+i<j->x<2
 |[],k,h,i,x,hx,_,_=>by grind
 |y::l,k,h,i,x,hx,hp,hj=>by
  unfold calm at h;simp at h;cases i with
  |zero =>grind[Nat.blt_eq,Nat.ble_eq]
  |succ i=>exact IX h.2 i x (by grind) (by omega) (by omega)
theorem Ic:∀ {l:List Nat}{k i:Nat},l[i]? = some 3->k+i+1∈qf l k
 |[],k,i,h=>by grind
 |x::l,k,0,h=>by simp_all[qf]
 |x::l,k,i+1,h=>by have:=Ic (k:=k+1) (i:=i) (l:=l) (by grind);grind[qf]
theorem Gw{ks bs ps:List Nat}:∀ {l:List Nat}{k j p:Nat},l[j]? = some 1->p∈ps->pinned ks bs (k+j) p=false->(k+j,p)∈ue ks bs ps l k
 |[],k,j,p,h,_,_=>by grind
 |x::l,k,0,p,h,hp,hn=>by grind[ue,J3]
 |x::l,k,j+1,p,h,hp,hn=>by have:=Gw (ks:=ks) (bs:=bs) (l:=l) (k:=k+1) (j:=j) (by grind) hp (by grind);grind[ue]
def ZI:Rec:=⟨.lf,⟨.lf,.lf,0⟩,.un,false⟩
def recAt(R:List Rec)(i:Nat):Rec:=match R[i]? with|some r=>r|none=>ZI
def Be(P:Program)(S:Self)(nt:Nat)(ops:Array Oper)(o:Oper)(r r':Rec):Prop :=
 gj ops r.t o=some r.w/\eN nt r.t o.dst r.v=some r'.t/\(r.w=false->r.v=.un/\r'.st=r.st)/\(r.w=true->da P S r.t r.st o=some (r.v,r'.st))
theorem Ff{P:Program}{S:Self}{nt:Nat}{ops:Array Oper}:∀ {l:List Oper}{t:Tr AV}{st:St}{R:List Rec},bI P S nt ops l t st=some R->
  R.length=l.length+1/\(recAt R 0).t=t/\(recAt R 0).st=st/\∀ i o,l[i]? = some o->Be P S nt ops o (recAt R i) (recAt R (i+1))
 |[],t,st,R,h=>by cases h;exact⟨rfl,rfl,rfl,fun i o h=>by grind⟩
 |o::l,t,st,R,h=>by
  have cons:∀ {r:Rec} {t':Tr AV} {st':St} {k:Option (List Rec)},tD r k=some R->r.t=t->r.st=st->(∀ R',k=some R'->R'.length=l.length+1/\(recAt R' 0).t=t'/\(recAt R' 0).st=st'/\∀ i o,l[i]? = some o->Be P S nt ops o (recAt R' i) (recAt R' (i+1)))->
    (∀ r':Rec,r'.t=t'->r'.st=st'->Be P S nt ops o r r')->
    R.length=(o::l).length+1/\(recAt R 0).t=t/\(recAt R 0).st=st/\∀ i x,(o::l)[i]? = some x->Be P S nt ops x (recAt R i) (recAt R (i+1)):=by
   intro r t' st' k hk ht hst hR hok;cases k with
   |none=>cases hk
   |some R' =>
    cases hk;obtain⟨k1,k2,k3,k4⟩:=hR R' rfl;refine⟨by grind,ht,hst,fun i x hx=>?_⟩;cases i with
    |zero =>
     have:o=x:=by grind
     subst this;exact hok _ k2 k3
    |succ i=>exact k4 i x (by grind)
  unfold bI at h;split at h
  ·rename_i hg;unfold o8 at h;split at h
   ·rename_i v st' hv;unfold lh at h;split at h
    ·rename_i t' hp;exact cons h rfl rfl (fun R' hR'=>Ff hR') fun r' e1 e2=>⟨hg,(by grind),fun h=>(by grind),fun _=>(by rw[e2];exact hv)⟩
    grind
   grind
  ·rename_i hg;unfold lh at h;split at h
   ·rename_i t' hp;exact cons h rfl rfl (fun R' hR'=>Ff hR') fun r' e1 e2=>⟨hg,(by grind),fun _=>⟨rfl,e2⟩,fun h=>(by cases h)⟩
   ·cases h
  grind
theorem HV:∀ {R:List Rec}{n:Nat},R.length=n+1->jo R=.nx (recAt R n).t (recAt R n).st
 |[],n,h=>by grind
 |[r],n,h=>by
  have:n=0:=by grind
  subst this;rfl
 |r::q::l,n,h=>by
  cases n with
  |zero=>grind
  |succ n =>have:=HV (R:=q::l) (n:=n) (by grind);exact this
theorem dF.pre{E1:Env}{w1:World}{m:Machine}{r:Out}(hs:bt E E1 w w1 st st1)(hm:Steps P m m1)(h:dF P ks n0 E1 nt b w1 st1 m1 k r):
  dF P ks n0 E nt b w st m k r:=by
 cases r with
 |nx t st'=>obtain⟨E',a',w',h1,h2,h3,h4⟩:=h;exact⟨E',a',w',hs.trans h1,h2,h3,hm.trans h4⟩
 |ex id t st'=>obtain⟨E',a',w',h1,h2,h3,h4⟩:=h;exact⟨E',a',w',hs.trans h1,h2,h3,fun k' hk=>hm.trans (h4 k' hk)⟩
 |rt t st'=>intro hb;obtain⟨E',a',w',todo,h1,h2,h3,h4⟩:=h hb;exact⟨E',a',w',todo,hs.trans h1,h2,h3,hm.trans h4⟩
 |no=>trivial
theorem dF.ir{m:Machine}{r:Out}(hr:Rel E w.heap st)(hm:step P m=.next m1)(h:dF P ks n0 E nt b w st m1 k r):
  dF P ks n0 E nt b w st m k r:=dF.pre (.refl hr) (Q2 hm) h
theorem wz{r:Out}(h:eC st1 r)(hl:r.lim n):r=.no\/st1.next<=n:=by
 cases r with
 |nx t st'=>exact .inr (Q6 (h.1 _ _ rfl) hl)
 |ex i t st'=>exact .inr (Q6 (h.2.1 _ _ _ rfl) hl)
 |rt t st'=>exact .inr (Q6 (h.2.2 _ _ rfl) hl)
 |no=>grind
theorem FW(hS:cq P S):∀ (l:List Oper) (i:Nat),ops.toList.drop i=l->∀ {E:Env}{w:World}{st:St}{t:Tr AV}{a:Act},Rel E w.heap st->cJ E nt t a.tmps->Marks n0 b.defers E w.heap st a.defers->
  (bR P S nt ops l t st).lim E.top->dF P ks n0 E nt b w st (lone (b.atR a (.inRegion ops (Q7 i l.length)::k)) ks w) k (bR P S nt ops l t st):=by
 intro l;induction l with
 |nil =>intro i hi E w st t a hr ht hm hl;exact⟨E,a,w,.refl hr,ht,hm,Q2 stepR_region_end⟩
 |cons o l ih =>
  intro i hi E w st t a hr ht hm hl;have hoi:ops[i]? = some o:=by
   have:(ops.toList.drop i)[0]? = some o:=by grind
   grind
  have hi':ops.toList.drop (i+1)=l:=by rw[<-List.drop_drop,hi];rfl
  have e:bR P S nt ops (o::l) t st=nJ P S nt o t st (bR P S nt ops l) (gj ops t o):=rfl;rw[e]at hl|-;have hrg:Q7 i (o::l).length=i::Q7 (i+1) l.length:=by simp[J9]
  cases hg:gj ops t o with
  |none=>exact trivial
  |some g =>
   rw[hg]at hl;have hw:=IE ht hg;cases g with
   |false =>
    have e:nJ P S nt o t st (bR P S nt ops l) (some false)=kJ (eN nt t o.dst .un) fun t=>bR P S nt ops l t st:=rfl
    rw[e]at hl|-;cases hp:eN nt t o.dst .un with
    |none=>exact trivial
    |some t1 =>simp[kJ,Tr.seen_eq]at hl|-;have ht1:cJ E nt t1 (a.put o.dst undef).tmps:=vH ht hp .un;simp_all[dF.ir,put_defers,stepR_op_skip]
   |true =>
    have e:nJ P S nt o t st (bR P S nt ops l) (some true)=qB nt t o.dst (da P S t st o) (bR P S nt ops l):=rfl;rw[e]at hl|-;cases ho:da P S t st o with
    |none=>exact trivial
    |some p =>
     obtain⟨v,st1⟩:=p;rw[ho]at hl;have e:qB nt t o.dst (some (v,st1)) (bR P S nt ops l)=kJ (eN nt t o.dst v) fun t=>bR P S nt ops l t st1:=rfl
     rw[e]at hl|-;cases hp:eN nt t o.dst v with
     |none=>exact trivial
     |some t1 =>
      rw[hp]at hl;simp[kJ,Tr.seen_eq]at hl|-;rcases wz (vP hS.up l t1 st1) hl with hno|hn
      ·rw[hno];exact trivial
      ·obtain⟨E',w',cv,hs,hc,hst⟩:=Ea hoi hw (EH ho) (Gi hS hr (vw ht) ho hn);have ht1:cJ E' nt t1 (a.put o.dst cv).tmps:=vH (ht.mono hs.le) hp hc;exact dF.pre hs hst (ih (i+1) hi' hs.rel ht1 (by rw[put_defers];exact hm.step hs.toStep) (by rw[hs.top];grind))
theorem MO(hk:kind o.op=0):∃ f:Option AV,∀ st,da P S t st o=dC st f:=by
 unfold da;cases hop:o.op<;>rw[hop]at hk<;>first|(simp only[kind]at hk;omega)|skip
 case move x=>exact⟨some (ai t x),fun st=>rfl⟩
 case assign x=>exact⟨some (ai t x),fun st=>rfl⟩
 case pick c a b =>
  show ∃ f:Option AV,∀ st,rX (ai t a) (ai t b) st (ai t c).gV=dC st f
  cases(ai t c).gV with
  |none=>exact⟨none,fun _=>rfl⟩
  |some x=>cases x;exact⟨some (ai t b),fun _=>rfl⟩;exact⟨some (ai t a),fun _=>rfl⟩
 case build ty ps =>
  show ∃ f:Option AV,∀ st,@Bool.rec (fun _=>aR) none (df P ty (gQ t ps.toList) st) (fu P ty)=dC st f
  have hf:∀ pl z,∃ f:Option AV,∀ st,jg st pl (gQ t ps.toList) z=dC st f:=by
   intro pl z;cases z with
   |none=>exact⟨none,fun _=>rfl⟩
   |some z =>
    cases hfl:fill pl z (gQ t ps.toList) with
    |none=>exact⟨none,fun _=>by simp[jg,hfl,EM,dC]⟩
    |some l=>exact⟨some (.ag l),fun _=>by simp[jg,hfl,EM,dC]⟩
  cases fu P ty with
  |false=>exact⟨none,fun _=>rfl⟩
  |true =>
   unfold df;cases hu:P.underlying ty with
   |none=>exact⟨none,fun _=>rfl⟩
   |some d=>cases d<;>first|exact hf _ _|exact⟨none,fun _=>rfl⟩
 case nilCheck x =>
  show ∃ f:Option AV,∀ st,notNil st (ai t x)=dC st f
  cases ai t x<;>first
   |exact⟨none,fun _=>rfl⟩
   |exact⟨some _,fun _=>rfl⟩
   |skip
  rename_i g a b;cases g<;>first|exact⟨none,fun _=>rfl⟩|exact⟨some _,fun _=>rfl⟩
 case binOp=>exact⟨_,fun st=>rfl⟩
 case unOp=>exact⟨_,fun st=>rfl⟩
 case makeInterface=>exact⟨none,fun _=>rfl⟩
 case makeFunc fn a b =>
  show ∃ f:Option AV,∀ st,zL fn a b P S t st=dC st f
  unfold zL;cases ou fn with
  |false=>exact⟨none,fun _=>rfl⟩
  |true=>exact⟨some _,fun _=>rfl⟩
 case fieldAddr s x n =>
  show ∃ f:Option AV,∀ st,pZ s x n P S t st=dC st f
  unfold pZ;cases ey P s n with
  |none=>exact⟨none,fun _=>rfl⟩
  |some k =>
   simp[fieldAt];cases(ai t x).bW with
   |some p=>exact⟨some _,fun _=>rfl⟩
   |none=>cases(ai t x).yQ with
    |none=>exact⟨none,fun _=>rfl⟩
    |some c=>exact⟨some _,fun _=>rfl⟩
 case field=>exact⟨none,fun _=>rfl⟩
 case indexAddr=>exact⟨_,fun st=>rfl⟩
 case index=>exact⟨_,fun st=>rfl⟩
 case extract x n =>
  show ∃ f:Option AV,∀ st,nth n st (ai t x)=dC st f
  cases ai t x<;>first|exact⟨none,fun _=>rfl⟩|exact⟨_,fun _=>rfl⟩
 case call c =>
  obtain⟨callee,as,ts⟩:=c;cases callee<;>first|(simp[kind]at hk)|skip
  rename_i bb;cases bb<;>simp at hk
structure Sub(X Y:St):Prop where
 row:∀ r x,X.get r=some x->Y.get r=some x
 live:∀ g al,X.live.get g=some al->Y.live.get g=some al
theorem Sub.refl(X:St):Sub X X:=⟨fun _ _ h=>h,fun _ _ h=>h⟩
theorem Sub.ce{X Y:St}(h:Sub X Y){r:Nat}{p:List AV× Nat× List Nat}(hp:X.ce r=some p):Y.ce r=some p:=by
 unfold St.ce at hp|-;cases hg:X.get r with
 |none=>grind
 |some row =>
  rw[hg]at hp;rw[h.row r row hg];cases row with
  |ce l g =>
   simp only at hp|-;cases hl:X.live.get g with
   |none=>grind
   |some al=>rw[h.live g al hl];grind
  |_=>grind
theorem Sub.ia{X Y:St}(h:Sub X Y){t:TypeId}{x v:AV}{lo hi mx:Option AV}(hp:ia P X t x lo hi mx=some v):Ev.ia P Y t x lo hi mx=some v:=by
 unfold Ev.ia at hp|-;split at hp
 ·grind
 ·rename_i hno;unfold Ce at hp|-;split at hp
  ·rename_i r o n z;cases hce:X.ce r with
   |some lga=>rw[h.ce hce];grind
   |none=>grind
  grind
theorem Sub.rd{X Y:St}(h:Sub X Y){r o n:Nat}{l:List AV}(hp:rd X r o n=some l):rd Y r o n=some l:=by
 unfold Ev.rd at hp|-;cases hc:X.ce r with
 |none=>grind
 |some p=>rw[h.ce hc];grind
theorem Sub.loadAt{X Y:St}(h:Sub X Y){t:TypeId}{a v:AV}(hp:loadAt P t X a=some v):Ev.loadAt P t Y a=some v:=by
 unfold Ev.loadAt at hp|-;cases hi:bp P t with
 |false=>simp_all
 |true =>
  rw[hi]at hp;cases ha:a.bW with
  |none=>grind
  |some ro =>
   obtain⟨r,o⟩:=ro;rw[ha]at hp;cases hg:et P t with
   |true =>
    rw[hg]at hp;simp only at hp|-;cases hr:Ev.rd X r o (aD P t) with
    |none=>rw[hr]at hp;cases hp
    |some l=>rw[h.rd hr];grind
   |false =>
    rw[hg]at hp;simp only at hp|-;cases hr:Ev.rd X r o 1 with
    |none=>rw[hr]at hp;cases hp
    |some l=>rw[h.rd hr];grind
theorem Sub.lookup{X Y:St}(h:Sub X Y){t:TypeId}{m k v:AV}{ok:Bool}(hp:lookup P t X m k ok=some v):Ev.lookup P t Y m k ok=some v:=by
 unfold Ev.lookup at hp|-;cases hu:P.underlying t with
 |none=>grind
 |some d =>
  rw[hu]at hp;cases d<;>first|(cases hp)|skip
  simp only at hp|-;split at hp
  ·grind
  ·cases hf:kV P t k with
   |false=>simp_all
   |true =>
    rw[hf]at hp;split at hp
    ·grind
    ·split at hp
     ·rename_i es c hg;rw[h.row _ _ hg];grind
     ·rename_i es hg;rw[h.row _ _ hg];grind
     grind
    grind
theorem Sub.DE{X:St}(h:Sub X Y)(hp:sg P X ts x=some (v,X')):sg P Y ts x=some (v,Y):=by
 have i64:∀ {o:Option Nat},int64 X o=some (v,X')->int64 Y o=some (v,Y):=by
  intro o ho;cases o with
  |none=>cases ho
  |some n=>cases ho;rfl
 cases ts with
 |nil=>cases hp
 |cons t r =>
  unfold sg at hp|-;simp only at hp|-;cases hu:P.underlying t with
  |none=>grind
  |some d =>
   rw[hu]at hp;cases d<;>first|(cases hp)|skip
   case string =>
    cases ht:lH x with
    |false=>simp_all
    |true=>simp_all
   case slice e =>
    cases ht:lH x with
    |false=>simp_all
    |true=>simp_all
theorem Qd(hk:kind o.op=1){X:St}(h:Sub X Y)(he:da P S t X o=some (v,X')):da P S t Y o=some (v,Y):=by
 unfold da at he|-;have gv:∀ {a b:Option AV},dC X a=some (v,X')->(∀ v,a=some v->b=some v)->dC Y b=some (v,Y):=by intro a b ha hab;obtain⟨h1,_⟩:=kH ha;rw[hab v h1];rfl
 cases hop:o.op<;>rw[hop]at hk he<;>first|(simp only[kind]at hk;omega)|skip
 case load ty a=>exact gv (he:dC X (loadAt P ty X (ai t a))=_) fun v hv=>h.loadAt hv
 case lookup ty m k ok=>exact gv (he:dC X (lookup P ty X (ai t m) (ai t k) ok)=_) fun v hv=>h.lookup hv
 case slice ty x lo hi mx=>exact gv (he:dC X (ia P X ty (ai t x) (lo.map (ai t)) (hi.map (ai t)) (mx.map (ai t)))=_) fun v hv=>h.ia hv
 case call c =>
  obtain⟨callee,as,ts⟩:=c;cases callee<;>first|(simp[kind]at hk)|skip
  rename_i bb;cases bb<;>first|(simp at hk)|skip
  have he:ft P X ts.toList (args t as.toList)=some (v,X'):=he;show ft P Y ts.toList (args t as.toList)=some (v,Y)
  unfold ft at he|-;split at he
  ·exact h.DE he
  grind
theorem acP(hρ:∀ x,Conc E (ai t x) (ρ x))(hk:kind o.op=2)(he:da P S t st o=some (v,st')):
  ∃ l,st'=st.aw l/\∃ z ob n,(execOp ρ o).run P w=.ok (.value z) { w with heap:=w.heap.push ob }/\(∀ g,im E (w.heap.push ob) ⟨w.heap.size,0,n⟩ (.ce l g))/\
   ∀ F,F.phi st.next=some ⟨w.heap.size,0,n⟩->Conc F v z:=by
 have row:∀ {l:List AV} {us:Array Value} (ty:TypeId),aP E l us.toList->∀ g,im E (w.heap.push (.cells us ty)) ⟨w.heap.size,0,us.size⟩ (.ce l g):=by intro l us ty hc g;have hlen:=hc.length;refine⟨us,ty,(0,0),by simp,.inl rfl,rfl,by grind,?_⟩;grind
 unfold da at he;cases hop:o.op<;>rw[hop]at hk he<;>first|(simp only[kind]at hk;omega;done)|skip
 case alloc e =>
  have he:mY st (bm P e)=some (v,st'):=he;cases hz:bm P e with
  |none=>rw[hz]at he;cases he
  |some l =>
   rw[hz]at he;cases he;obtain⟨z,g1,g2,g3,g4⟩:=rG hz;refine⟨l,rfl,.pointer (some ⟨w.heap.size,0,none⟩),.cells z.cells e,z.cells.size,?_,row e g2,fun F hF=>?_⟩
   ·simp_all[execOp,Z6,newVar,newRow]
   ·have:=Conc.p st.next 0 _ hF;grind
 case box e x =>
  have he:mY st (ai t x).cells=some (v,st'):=he;cases hz:(ai t x).cells with
  |none=>rw[hz]at he;cases he
  |some l =>
   rw[hz]at he;cases he;have g2:=Az (hρ x) hz;refine⟨l,rfl,.pointer (some ⟨w.heap.size,0,none⟩),.cells (ρ x).cells e,(ρ x).cells.size,?_,row e g2,fun F hF=>?_⟩
   ·simp_all[execOp,Z7,newVar,newRow]
   ·have:=Conc.p st.next 0 _ hF;grind
 case buildSlice ty len parts =>
  have he:oZ ty len parts P S t st=some (v,st'):=he;unfold oZ at he;split at he
  ·grind
  ·rename_i e hel;have hu:=qi hel;cases hz:bm P e with
   |none=>grind
   |some z =>
    rw[hz]at he;obtain⟨hle,he⟩:=eY he;obtain⟨zero,g1,g2⟩:=QQ hz len;have hi:bp P e=true:=by obtain⟨_,_,_,g3,_⟩:=rG (E:=E) hz;grind
    cases hf:fill (jB (aD P e)) (rep len z) (gQ t parts.toList) with
    |none=>rw[hf]at he;cases he
    |some l' =>
     rw[hf]at he;obtain⟨us',h1,h2⟩:=Es hρ parts.toList _ l' _ hf g2;cases he;refine⟨l',rfl,.slice (some ⟨w.heap.size,0,none⟩) len len,.cells us' e,us'.size,?_,row e h2,fun F hF=>.slk st.next 0 len (aD P e) len _ (Q0 _) (.inr ⟨_,hF,by simp⟩)⟩;have hle':¬ len*aD P e > 2 ^ 24:=by simp_all
     have h1':Instr.fill (fun i=>some (i*aD P e,aD P e)) ((X5 (len*aD P e)).map (zero[· % zero.size]!)) (parts.map fun(i,x)=>(i,ρ x)).toList=some us':=by have:(fun i=>some (i*aD P e,aD P e))=jB (aD P e):=rfl;simp_all
     have key:(X6 ty len (parts.map fun(i,x)=>(i,ρ x))).run P w=.ok (.slice (some ⟨w.heap.size,0,none⟩) len len) { w with heap:=w.heap.push (.cells us' e) }:=by simp only[X6,Q3,bQ hu,Q4,gU hi,if_neg hle'];refine(g1 (fun zero=>_) w).trans ?_;grind[Q3,newRow,run_newObj,Q4,J4]
     grind[execOp,Q3,Q4,J4]
 case call c =>
  exfalso;obtain⟨callee,as,ts⟩:=c;cases callee<;>first|(simp[kind]at hk;done)|skip
  rename_i bb;cases bb<;>simp[kind]at hk
theorem Ft{t t':Tr AV}:∀ {l:List Operand},(∀ x∈l,ai t x=ai t' x)->args t l=args t' l
 |[],_=>rfl
 |x::l,h=>by
  have h1:=h x (Z4 ..);have h2:=Ft fun y hy=>h y (X7 _ hy)
  show ai t x::args t l=ai t' x::args t' l
  rw[h1,h2]
theorem Hu{t t':Tr AV}:∀ {l:List (Nat× Operand)},(∀ p∈l,ai t p.2=ai t' p.2)->gQ t l=gQ t' l
 |[],_=>rfl
 |x::l,h=>by
  have h1:=h x (Z4 ..);have h2:=Hu fun y hy=>h y (X7 _ hy)
  show(x.1,ai t x.2)::gQ t l=(x.1,ai t' x.2)::gQ t' l
  rw[h1,h2]
theorem GL{o:Option Operand}(h:∀ x,o=some x->ai t x=ai t' x):o.map (ai t)=o.map (ai t'):=by
 cases o with
 |none=>rfl
 |some x=>grind
theorem WJ(h:∀ x∈o.op.operands,ai t x=ai t' x):da P S t st o=da P S t' st o:=by
 unfold da;obtain⟨dst,op,type,pos,after,guard⟩:=o;cases op<;>simp only[Op.operands]at h<;>first|rfl|skip
 case move x=>show some (ai t x,st)=some (ai t' x,st);grind
 case assign x=>show some (ai t x,st)=some (ai t' x,st);grind
 case pick c a b=>show rX (ai t a) (ai t b) st (ai t c).gV=rX (ai t' a) (ai t' b) st (ai t' c).gV;grind
 case box e x=>show mY st (ai t x).cells=mY st (ai t' x).cells;grind
 case build ty ps =>
  have:gQ t ps.toList=gQ t' ps.toList:=Hu fun p hp=>h p.2 (by grind)
  show @Bool.rec (fun _=>aR) none (df P ty (gQ t ps.toList) st) (fu P ty)=@Bool.rec (fun _=>aR) none (df P ty (gQ t' ps.toList) st) (fu P ty)
  grind
 case buildSlice ty n ps =>
  have:gQ t ps.toList=gQ t' ps.toList:=Hu fun p hp=>h p.2 (by grind)
  show oZ ty n ps P S t st=oZ ty n ps P S t' st
  unfold oZ;grind
 case insert ty m k x=>show done (mapUpdate P ty st (ai t m) (ai t k) (ai t x))=done (mapUpdate P ty st (ai t' m) (ai t' k) (ai t' x));grind
 case mapEntry ty m k=>show mapEntry P ty st (ai t m) (ai t k)=mapEntry P ty st (ai t' m) (ai t' k);grind
 case entryStore ty m s x=>show done (entryStore st (ai t x) (ai t m) (gk (ai t s)))=done (entryStore st (ai t' x) (ai t' m) (gk (ai t' s)));grind
 case load ty a=>show dC st (loadAt P ty st (ai t a))=dC st (loadAt P ty st (ai t' a));grind
 case store ty a x=>show done (storeAt P ty st (ai t a) (ai t x))=done (storeAt P ty st (ai t' a) (ai t' x));grind
 case nilCheck x=>show notNil st (ai t x)=notNil st (ai t' x);grind
 case binOp op ty x y ty'=>show dC st (binOp P ty (kU x||kU y) op (ai t x) (ai t y))=dC st (binOp P ty (kU x||kU y) op (ai t' x) (ai t' y));grind
 case unOp op ty x=>show dC st (unOp op (ai t x))=dC st (unOp op (ai t' x));grind
 case convert s d x=>show conv P st s d (ai t x)=conv P st s d (ai t' x);grind
 case makeFunc fn a b =>
  have ha:args t a.toList=args t' a.toList:=Ft fun x hx=>h x (by grind)
  have hb:args t b.toList=args t' b.toList:=Ft fun x hx=>h x (by grind)
  show @Bool.rec (fun _=>aR) none (some (.f fn (args t a.toList) (args t b.toList),st)) (ou fn)=@Bool.rec (fun _=>aR) none (some (.f fn (args t' a.toList) (args t' b.toList),st)) (ou fn)
  grind
 case slice ty x lo hi mx =>
  have h0:=h x (by simp);have h1:lo.map (ai t)=lo.map (ai t'):=GL fun y hy=>h y (by grind)
  have h2:hi.map (ai t)=hi.map (ai t'):=GL fun y hy=>h y (by grind)
  have h3:mx.map (ai t)=mx.map (ai t'):=GL fun y hy=>h y (by grind)
  show dC st (ia P st ty (ai t x) (lo.map (ai t)) (hi.map (ai t)) (mx.map (ai t)))=dC st (ia P st ty (ai t' x) (lo.map (ai t')) (hi.map (ai t')) (mx.map (ai t')))
  grind
 case fieldAddr s x n =>
  show pZ s x n P S t st=pZ s x n P S t' st
  grind[pZ]
 case indexAddr ty x ix=>show dC st (indexAddr P ty (ai t x) (ai t ix))=dC st (indexAddr P ty (ai t' x) (ai t' ix));grind
 case index ty x ix=>show dC st (index P ty (ai t x) (ai t ix))=dC st (index P ty (ai t' x) (ai t' ix));grind
 case lookup ty x ix ok=>show dC st (lookup P ty st (ai t x) (ai t ix) ok)=dC st (lookup P ty st (ai t' x) (ai t' ix) ok);grind
 case mapUpdate ty m k x=>show done (mapUpdate P ty st (ai t m) (ai t k) (ai t x))=done (mapUpdate P ty st (ai t' m) (ai t' k) (ai t' x));grind
 case range ty x=>show rL P ty st (ai t x)=rL P ty st (ai t' x);grind
 case next x s=>show wZ st s (ai t x)=wZ st s (ai t' x);grind
 case entry x=>show tm st (ai t x)=tm st (ai t' x);grind
 case extract x n=>show nth n st (ai t x)=nth n st (ai t' x);grind
 case call c =>
  have ha:args t c.args.toList=args t' c.args.toList:=Ft fun x hx=>h x (by simp at hx;simp[X8,hx])
  show sG c P S t st=sG c P S t' st
  grind[sG,X8]
def only(t:Tr AV):List Tmp->Tr AV
 |[]=>.lf
 |x::l=>(only t l).set x (t.get x)
theorem DN(t:Tr AV):∀ (l:List Tmp) (x:Tmp),(only t l).get x=if x∈l then t.get x else none
 |[],x=>by simp[only,Tr.uy]
 |y::l,x=>by
  unfold only;rw[Tr.eh,DN t l x];by_cases h:x=y
  ·subst h;simp
  ·simp[h]
theorem YT(hsz:a.tmps.size=nt)(h:∀ x∈o.looksAt ops,Conc E (ab t x) (a.tmps.getD x undef)):
  (∀ r,gj ops t o=some r->Q1 o (yielded ops a.tmps)=r)/\
  ∃ (t':Tr AV) (ρ:Operand->Value),(∀ x,Conc E (ai t' x) (ρ x))/\(∀ st,da P S t' st o=da P S t st o)/\((∀ cs b,o.op≠.select cs b)->execOp ρ o=execOp a.eval o):=by
 let L:=o.looksAt ops
 let t':=only t L
 let a':Act:={ tmps:=(X5 nt).map (fun i=>if i∈L then a.tmps.getD i undef else undef),defers:=a.defers }
 have hget:∀ x,a'.tmps.getD x undef=if x∈L then a.tmps.getD x undef else undef:=by intro x;rw[J1];grind
 have hT:cJ E nt t' a'.tmps:=by
  refine⟨by grind,fun x=>?_⟩;rw[hget];unfold ab;rw[DN];by_cases hx:x∈L
  ·rw[if_pos hx,if_pos hx];exact h x hx
  ·rw[if_neg hx,if_neg hx];exact .un
 have hev:∀ x,x∈o.op.operands->ai t' x=ai t x:=by
  intro x hx;cases x with
  |tmp y =>
   have:y∈L:=X9 _ (Y0.2 ⟨.tmp y,by grind,rfl⟩);show(match t'.get y with|some v=>v|none=>.un)=(match t.get y with|some v=>v|none=>.un)
   rw[DN,if_pos this]
  |_=>rfl
 have hea:∀ x,x∈o.op.operands->a'.eval x=a.eval x:=by
  intro x hx;cases x with
  |tmp y =>have:y∈L:=X9 _ (Y0.2 ⟨.tmp y,by grind,rfl⟩);have:=hget y;rw[if_pos (by grind)]at this;exact this
  |_=>rfl
 refine⟨fun r hr=>?_,t',a'.eval,vw hT,fun st=>WJ hev,fun hs=>execOp_congr o hs hea⟩;have hg:gj ops t' o=some r:=by
  rw[<-hr];unfold gj;cases hgd:o.guard with
  |none=>rfl
  |some gw =>
   obtain⟨g,want⟩:=gw;simp only;unfold rH;cases hog:ops[g]? with
   |none=>rfl
   |some og =>
    simp only;cases hd:og.dst with
    |none=>rfl
    |some d =>have:d∈L:=Y1 _ (by grind);simp[t',DN,if_pos this]
 rw[<-IE hT hg];unfold Q1;cases hgd:o.guard with
 |none=>rfl
 |some gw =>
  obtain⟨g,want⟩:=gw;have hy:yielded ops a.tmps g=yielded ops a'.tmps g:=by
   unfold yielded;cases hog:(ops[g]?).bind (·.dst) with
   |none=>rfl
   |some d =>
    have hd:d∈L:=Y1 _ (by simp[hgd,hog]);have:=hget d;rw[if_pos hd]at this;by_cases hlt:d<nt
    ·have e1:a.tmps[d]? = some (a.tmps.getD d undef):=by
      rw[J1];have:d<a.tmps.size:=Nat.lt_of_lt_of_eq hlt hsz.symm;simp[this]
     have e2:a'.tmps[d]? = some (a'.tmps.getD d undef):=by
      rw[J1];have:d<a'.tmps.size:=by simp[a',hlt]
      simp[this]
     simp only[Option.bind_some,e1,e2,this]
    grind
  grind
theorem Step.AF{aK X:St}(h:Step E0 E H0 H aK X){B:fy}(hphi:E.phi r=none)(hget:X.get r=none)(hr:r<X.next)
  (hmem:∀ g al,X.live.get g=some al->r∉al) (hlr:X.live.get r=none)
  (hget':∀ x,X'.get x=if x=r then some row else X.get x) (hnext:X'.next=X.next) (hlive':∀ g,X'.live.get g=X.live.get g\/(g=r/\X'.live.get g=some [r]))
  (hce:∀ l g,row=.ce l g->g=r) (hB:H0.size<=B.b) (hun:Un E X B.b) (hrow:im E H B row):Step E0 (E.bind r B) H0 H aK X':=by
 have hle:E.le (E.bind r B):=Env.pk hphi;have hh:=h.rel;have hal:∀ x y,X'.alive x=some y->(x=r/\y=row)\/(x≠r/\X.alive x=some y):=by
  intro x y hx;by_cases e:x=r
  ·left;have:=Rel.pc hx;rw[hget',if_pos e]at this;exact⟨e,(Y3 this).symm⟩
  ·right;refine⟨e,?_⟩;unfold St.alive at hx|-;rw[hget',if_neg e]at hx;cases hg:X.get x with
   |none=>rw[hg]at hx;exact hx
   |some w =>
    rw[hg]at hx;cases w with
    |ce l g =>
     simp only at hx|-;rcases hlive' g with hq|⟨rfl,hq⟩
     ·rw[hq]at hx;exact hx
     ·rw[hq]at hx;have:mem x [g]=false:=by
       cases hm:mem x [g] with
       |false=>rfl
       |true=>rw[mem_iff]at hm;simp at hm;exact absurd hm e
      simp[this]at hx
    |mp=>exact hx
    |si=>exact hx
    |mi=>exact hx
    |lp=>exact hx
    |mu=>exact hx
    |ch=>exact hx
    |ty=>exact hx
 have hunB:∀ x y C,X.alive x=some y->E.phi x=some C->C.b≠B.b:=fun x y C hx hC hb=>hun.1 ⟨x,y,C,hx,hC,hb⟩
 refine⟨h.le.trans hle,h.imm,h.top,⟨hh.imm,?_,?_,?_,?_,?_,?_,?_,?_,fun x t r0 q hx=>by
  rw[hget']at hx;split at hx
  ·cases hx;exact(show False from hrow).elim
  ·exact(hh.tys x t r0 q hx).mono hle (fI.refl H)⟩,h.fr.size,h.fr.keep,?_⟩
 ·intro x hx ht;rw[Env.dY (by omega)];exact hh.fresh x (by omega) ht
 ·intro x hx;rw[hget',if_neg (by omega)];exact hh.freshRow x (by omega)
 ·intro g hg;rcases hlive' g with hq|⟨rfl,_⟩
  ·rw[hq];exact hh.freshG g (by omega)
  grind
 ·intro g al x hg hx;rcases hlive' g with hq|⟨rfl,hq⟩
  ·rw[hq]at hg;have:=hh.liveLt g al x hg hx;omega
  grind
 ·intro x y hx;rcases hal x y hx with ⟨rfl,rfl⟩|⟨hne,hx'⟩
  ·exact⟨_,Env.fj,hrow.mono hle rfl⟩
  ·obtain⟨C,hC,hR⟩:=hh.rows x y hx';exact⟨C,by rw[Env.dY hne];grind,hR.mono hle rfl⟩
 ·intro x y C hx hC;rcases hal x y hx with ⟨rfl,rfl⟩|⟨hne,hx'⟩
  ·rw[Env.fj]at hC;cases hC;exact hun.2
  ·rw[Env.dY hne]at hC;exact hh.own x y C hx' hC
 ·intro x x' y y' C C' hx hx' hC hC' hb;rcases hal x y hx with ⟨rfl,rfl⟩|⟨hne,hx1⟩<;>rcases hal x' y' hx' with ⟨rfl,rfl⟩|⟨hne',hx1'⟩
  ·exact .inl rfl
  ·rw[Env.fj]at hC;cases hC;rw[Env.dY hne']at hC';exact absurd hb.symm (hunB _ _ _ hx1' hC')
  ·rw[Env.fj]at hC';cases hC';rw[Env.dY hne]at hC;exact absurd hb (hunB _ _ _ hx1 hC)
  ·rw[Env.dY hne]at hC;rw[Env.dY hne']at hC';exact hh.sep x x' y y' C C' hx1 hx1' hC hC' hb
 ·intro g al hg;rcases hlive' g with hq|⟨rfl,hq⟩
  ·rw[hq]at hg;refine(hh.ends g al hg).imp_of_mem ?_;intro x y hx hy hxy lx ly Bx By h1 h2 h3 h4 h5;have hxn:x≠r:=by rintro rfl;exact hmem g al hg hx
   have hyn:y≠r:=by rintro rfl;exact hmem g al hg hy
   rw[hget',if_neg hxn]at h1;rw[hget',if_neg hyn]at h2;rw[Env.dY hxn]at h3;rw[Env.dY hyn]at h4;exact hxy lx ly Bx By h1 h2 h3 h4 h5
  ·rw[hq]at hg;cases hg;simp
 ·rintro b ⟨x,y,C,hx,hC,rfl⟩;rcases hal x y hx with ⟨rfl,rfl⟩|⟨hne,hx'⟩
  ·rw[Env.fj]at hC;cases hC;exact .inl hB
  ·rw[Env.dY hne]at hC;exact h.fr.own _ ⟨x,y,C,hx',hC,rfl⟩
theorem St.BR{X:St}(hg:∀ r,Y.get r=X.get r)(hl:∀ g,Y.live.get g=X.live.get g)(r:Nat):Y.alive r=X.alive r:=by grind[St.alive]
theorem Step.ext{aK X:St}(h:Step E0 E H0 H aK X)(hg:∀ r,Y.get r=X.get r)(hl:∀ g,Y.live.get g=X.live.get g)(hn:X.next<=Y.next):Step E0 E H0 H aK Y:=by
 have hh:=h.rel;have ha:=St.BR hg hl;refine⟨h.le,h.imm,h.top,⟨hh.imm,fun r hr ht=>hh.fresh r (by omega) ht,fun r hr=>by rw[hg];exact hh.freshRow r (by omega),fun g hr=>by rw[hl];exact hh.freshG g (by omega),
  fun g al x hal hx=>?_,fun r row hr=>hh.rows r row (by grind),fun r row B hr=>hh.own r row B (by grind),fun r r' row row' B B' h1 h2=>hh.sep r r' row row' B B' (by grind) (by grind),fun g al hal=>?_,fun x t r0 q hx=>hh.tys x t r0 q (by grind)⟩,h.fr.size,h.fr.keep,?_⟩
 ·rw[hl]at hal;have:=hh.liveLt g al x hal hx;omega
 ·rw[hl]at hal;refine(hh.ends g al hal).imp ?_;intro x y hxy lx ly Bx By h1 h2;rw[hg]at h1 h2;exact hxy lx ly Bx By h1 h2
 ·rintro b ⟨r,row,B,hr,hB,hb⟩;exact h.fr.own b ⟨r,row,B,by grind,hB,hb⟩
