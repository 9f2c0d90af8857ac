/-
  Arguments: data that are there ahead of the call, told by value. · Functions of which a contract is known are called by it, at every depth. · More equations: regions that draw their order; fields of structs; bodies, where contracts are known. · Expressions of the core, as data: their cells; how many there are, and how deep.
-/
import Derived.Test.YtbemeikjepjhoaaGreatDoorS18
import Derived.Test.YtbemeikjepjhoaaGreatDoorS24
import Derived.DataReads
import GoSem.ClaimChange
namespace Go.Ev
noncomputable section
variable {P : Program} {w : World} {top : Nat}
def inEnv (H:Array Obj) (top:Nat):Env:=⟨fun b=>H[b]?,fun _=>none,top⟩
theorem inEnv_rel (H:Array Obj) (top:Nat):Rel (inEnv H top) H st0:=by
 have hal:∀ r row,st0.alive r=some row→False:=fun r row h=>by have:=Rel.alive_get h; rw [st0_get] at this; cases this
 have hlv:∀ g:Nat,st0.live.get g=none:=fun g=>Tr.get_lf g
 refine ⟨fun _ _ h=>h,fun _ _ _=>rfl,fun r _=>st0_get r,fun g _=>hlv g,fun g al x h=>?_,fun r row h=>(hal r row h).elim,fun r row B h=>(hal r row h).elim,fun r r' row row' B B' h=>(hal r row h).elim,fun g al h=>?_,fun r t r0 x h=>by rw [st0_get] at h; cases h⟩
 ·rw [hlv] at h; cases h
 ·rw [hlv] at h; cases h
theorem inEnv_cell {a:Addr} {v:Value} (h:w.cell? a=some v):a.spot=none∧(inEnv w.heap top).cell a.block a.off=some v:=by
 unfold World.cell? at h
 unfold Env.cell inEnv
 simp only
 split at h
 ·rename_i c t f hb
  rw [hb]
  simp only
  split at h
  ·cases h
  ·rename_i hs
   exact ⟨by simpa using hs,h⟩
 ·cases h
theorem add_block (a:Addr) (n:Nat):(a.add n).block=a.block:=by unfold Addr.add; split <;> rfl
theorem add_off (a:Addr) (n:Nat):(a.add n).off=a.off+n:=by unfold Addr.add; split <;> simp [*]
theorem cells_spec {base:Nat} {a:Addr} {n:Nat} {cs:List Value} (h:w.cells? base a n=some cs):cs.length=n∧(0 < n→a.spot=none)∧∀ j v,cs[j]? = some v→(inEnv w.heap top).cell a.block (a.off+j)=some v:=by
 unfold World.cells? at h
 split at h
 ·have h1:=mapM_some_length h
  have key:∀ j v,cs[j]? = some v→w.cell? (a.add j)=some v:=by
   intro j v hj
   have hj':j < n:=by
    have:=(List.getElem?_eq_some_iff.1 hj).1
    simp at h1; omega
   have h2:=mapM_some_get h j j (by simp [hj'])
   rw [hj] at h2
   exact h2
  refine ⟨by simpa using h1,fun hn=>?_,fun j v hj=>?_⟩
  ·have hl:0 < cs.length:=by simp at h1; omega
   have:=(inEnv_cell (top:=top) (key 0 cs[0] (by simp [hl]))).1
   exact this
  ·have:=(inEnv_cell (top:=top) (key j v hj)).2
   rw [add_block,add_off] at this
   exact this
 ·cases h
def Tiles (P:Program):List Field→Nat→Nat→Prop
 | [],o,n=>o=n
 | f :: fs,o,n=>f.offset=o∧Tiles P fs (o+szOf P f.type) n
def tilesB (P:Program):List Field→Nat→Nat→Bool
 | [],o,n=>Nat.beq o n
 | f :: fs,o,n=>Nat.beq f.offset o && tilesB P fs (o+szOf P f.type) n
theorem tilesB_spec:∀ {fs:List Field} {o n:Nat},tilesB P fs o n=true→Tiles P fs o n
 | [],o,n,h=>Nat.eq_of_beq_eq_true h
 | f :: fs,o,n,h=>by
  simp only [tilesB,Bool.and_eq_true] at h
  exact ⟨Nat.eq_of_beq_eq_true h.1,tilesB_spec h.2⟩
def Typed (P:Program):Nat→TypeId→List AV→Prop
 | 0,_,_=>False
 | k+1,t,l=>match P.underlying t with
  | some .bool=>∃ b,l=[.b b]
  | some (.int q)=>∃ n,l=[.i q n]∧q.min≤n∧n≤q.max
  | some .string=>∃ bs:List Nat,l=[.s bs]∧(∀ b ∈ bs,b < 256)∧bs.length≤maxLen
  | some (.slice e)=>szOf P e=0∨l=[.sn]∨∃ els:List (List AV),l=[.rs els.flatten els.length (szOf P e)]∧els.length≤maxLen∧∀ x ∈ els,x.length=szOf P e∧Typed P k e x
  | some (.struct fs)=>tilesB P fs.toList 0 (szOf P t)=true→∃ parts:List (List AV),l=parts.flatten∧parts.length=fs.toList.length∧∀ (i:Nat) (f:Field) (p:List AV),fs.toList[i]? = some f→parts[i]? = some p→p.length=szOf P f.type∧Typed P k f.type p
  | _=>True
theorem bads_conc {E:Env}:∀ cs:List Value,ConcL E (cs.map fun _=>.bad) cs
 | []=>.nil
 | v :: cs=>.cons _ _ _ _ (.bad v) (bads_conc cs)
theorem sz_cells (t:TypeId):szOf P t=P.cellsOf t:=by
 unfold szOf Program.cellsOf
 cases P.info? t <;> rfl
section
variable {H : Type} {enc : TypeId × Value → H} {base : Nat} {spare : Nat → Bool} {held : Bool}
theorem struct_typed {k:Nat} {cs:List Value} (ih:∀ t cs d ps,DataW.trod enc P w base spare held k t cs=some (d,ps)→∃ l,ConcL (inEnv w.heap top) l cs∧Typed P k t l) :
  ∀ (fs:List Field) (o n:Nat) (xs:List (DataW H × List MemPlace)),Tiles P fs o n→cs.length=n→(fs.mapM fun f=>DataW.trod enc P w base spare held k f.type ((cs.drop f.offset).take (P.cellsOf f.type)))=some xs →
   ∃ parts:List (List AV),ConcL (inEnv w.heap top) parts.flatten (cs.drop o)∧parts.length=fs.length∧∀ (i:Nat) (f:Field) (p:List AV),fs[i]? = some f→parts[i]? = some p→p.length=szOf P f.type∧Typed P k f.type p:=by
 intro fs
 induction fs with
 | nil =>
  intro o n xs ht hc h
  have:o=n:=ht
  subst this
  refine ⟨[],?_,rfl,fun i f p h=>by simp at h⟩
  rw [List.drop_eq_nil_of_le (by omega)]
  exact .nil
 | cons f fs ihf =>
  intro o n xs ht hc h
  obtain ⟨h1,h2⟩:=ht
  rw [List.mapM_cons] at h
  cases ha:DataW.trod enc P w base spare held k f.type ((cs.drop f.offset).take (P.cellsOf f.type)) with
  | none=>rw [ha] at h; cases h
  | some x =>
   rw [ha] at h
   cases hb:(fs.mapM fun f=>DataW.trod enc P w base spare held k f.type ((cs.drop f.offset).take (P.cellsOf f.type))) with
   | none =>
    have h':(do let rs ← (fs.mapM fun f=>DataW.trod enc P w base spare held k f.type ((cs.drop f.offset).take (P.cellsOf f.type))); pure (x :: rs):Option (List (DataW H × List MemPlace)))=some xs:=h
    rw [hb] at h'; cases h'
   | some ys =>
    obtain ⟨l,c1,c2⟩:=ih _ _ x.1 x.2 ha
    obtain ⟨parts,p1,p2,p3⟩:=ihf _ n ys h2 hc hb
    rw [h1] at c1
    have hle:∀ (gs:List Field) (a b:Nat),Tiles P gs a b→a≤b:=by
     intro gs
     induction gs with
     | nil=>intro a b h; exact Nat.le_of_eq h
     | cons g gs ihg=>intro a b h; have:=ihg _ _ h.2; omega
    have hn:=hle _ _ _ h2
    have hl:l.length=szOf P f.type:=by
     rw [c1.length,List.length_take,List.length_drop,← sz_cells]
     omega
    refine ⟨l :: parts,?_,by simp [p2],fun i g p hg hp=>?_⟩
    ·have e:cs.drop o=(cs.drop o).take (P.cellsOf f.type)++cs.drop (o+szOf P f.type):=by
      rw [sz_cells,← List.drop_drop,List.take_append_drop]
     rw [e,List.flatten_cons]
     exact c1.append p1
    ·cases i with
     | zero =>
      simp at hg hp
      subst hg; subst hp
      exact ⟨hl,c2⟩
     | succ i=>exact p3 i g p (by simpa using hg) (by simpa using hp)
theorem slice_typed {k:Nat} {e:TypeId} {a:Addr} (ih:∀ t cs d ps,DataW.trod enc P w base spare held k t cs=some (d,ps)→∃ l,ConcL (inEnv w.heap top) l cs∧Typed P k t l) :
  ∀ (xs:List (DataW H × List MemPlace)) (i0:Nat),(∀ i x,xs[i]? = some x→(w.cells? base (a.add ((i0+i) * P.cellsOf e)) (P.cellsOf e)).bind (DataW.trod enc P w base spare held k e)=some x) →
   ∃ (els:List (List AV)) (vs:List Value),els.length=xs.length∧(∀ x ∈ els,x.length=szOf P e∧Typed P k e x)∧ConcL (inEnv w.heap top) els.flatten vs ∧
    (i0=0→0 < xs.length→0 < P.cellsOf e→a.spot=none)∧∀ j v,vs[j]? = some v→(inEnv w.heap top).cell a.block (a.off+i0 * P.cellsOf e+j)=some v:=by
 intro xs
 induction xs with
 | nil=>intro i0 h; exact ⟨[],[],rfl,fun x hx=>(by cases hx),.nil,fun _ h=>(by cases h),fun j v hj=>by simp at hj⟩
 | cons x xs ihx =>
  intro i0 h
  obtain ⟨els,vs,k1,k2,k3,-,k4⟩:=ihx (i0+1) (fun i y hy=>by
   have:=h (i+1) y (by simpa using hy)
   rw [show i0+(i+1)=i0+1+i by omega] at this
   exact this)
  have h0:=h 0 x rfl
  rw [Nat.add_zero] at h0
  cases hc:w.cells? base (a.add (i0 * P.cellsOf e)) (P.cellsOf e) with
  | none=>rw [hc] at h0; cases h0
  | some cs =>
   rw [hc] at h0
   obtain ⟨c1,cs0,c2⟩:=cells_spec (top:=top) hc
   obtain ⟨l,d1,d2⟩:=ih e cs x.1 x.2 h0
   have hl:l.length=szOf P e:=by rw [d1.length,c1,sz_cells]
   refine ⟨l :: els,cs++vs,by simp [k1],?_,?_,fun h0 _ hz=>?_,fun j v hj=>?_⟩
   ·intro y hy
    rcases List.mem_cons.1 hy with rfl | hy
    ·exact ⟨hl,d2⟩
    ·exact k2 y hy
   ·rw [List.flatten_cons]; exact d1.append k3
   ·have:=cs0 hz
    rw [h0,Nat.zero_mul] at this
    exact this
   ·by_cases hj':j < cs.length
    ·rw [List.getElem?_append_left hj'] at hj
     have:=c2 j v hj
     rw [add_block,add_off] at this
     exact this
    ·rw [List.getElem?_append_right (by omega)] at hj
     have g2:=k4 _ v hj
     rw [← g2]
     congr 1
     rw [Nat.add_mul,c1]
     omega
theorem typed_of:∀ (k:Nat) (t:TypeId) (cs:List Value) (d:DataW H) (ps:List MemPlace),
  DataW.trod enc P w base spare held k t cs=some (d,ps)→∃ l,ConcL (inEnv w.heap top) l cs∧Typed P k t l:=by
 intro k
 induction k with
 | zero=>intro t cs d ps h; cases h
 | succ k ih =>
  intro t cs d ps h
  cases hu:P.underlying t with
  | none=>exact ⟨_,bads_conc cs,by simp only [Typed,hu]⟩
  | some u =>
   cases u with
   | bool =>
    rw [DataW.trod.eq_def] at h
    simp only [hu] at h
    split at h <;> first | (rename_i e; cases e; done) | skip
    all_goals first
     | (rename_i b hb; exact ⟨[.b b],.cons _ _ _ _ (.b b) .nil,by simp only [Typed,hu]; exact ⟨b,rfl⟩⟩)
     | (cases h; done)
     | skip
   | int q =>
    rw [DataW.trod.eq_def] at h
    simp only [hu] at h
    split at h <;> first | (rename_i e; cases e; done) | skip
    ·rename_i e
     cases e
     split at h
     ·rename_i hq
      obtain ⟨rfl,hw⟩:=hq
      simp only [Lit.wf,Bool.and_eq_true,decide_eq_true_eq] at hw
      exact ⟨[.i _ _],.cons _ _ _ _ (.i _ _) .nil,by simp only [Typed,hu]; exact ⟨_,rfl,hw⟩⟩
     ·cases h
    ·cases h
   | string =>
    rw [DataW.trod.eq_def] at h
    simp only [hu] at h
    split at h <;> first | (rename_i e; cases e; done) | skip
    ·rename_i s e
     split at h
     ·rename_i hs
      refine ⟨[.s (s.data.toList.map UInt8.toNat)],.cons _ _ _ _ (.s s) .nil,?_⟩
      simp only [Typed,hu]
      refine ⟨_,rfl,fun b hb=>?_,by simpa using hs⟩
      obtain ⟨x,-,rfl⟩:=List.mem_map.1 hb
      exact x.toNat_lt
     ·cases h
    ·cases h
   | slice e =>
    rw [DataW.trod.eq_def] at h
    simp only [hu] at h
    split at h <;> first | (rename_i e; cases e; done) | skip
    ·exact ⟨[.sn],.cons _ _ _ _ .sn .nil,by simp only [Typed,hu]; exact .inr (.inl trivial)⟩
    ·rename_i e' a len cap he
     cases he
     split at h
     ·rename_i hlen
      by_cases hz:szOf P e=0
      ·exact ⟨[.bad],.cons _ _ _ _ (.bad _) .nil,by simp only [Typed,hu]; exact .inl hz⟩
      ·cases hm:(List.mapM (fun i=>(w.cells? base (a.add (i * P.cellsOf e)) (P.cellsOf e)).bind (DataW.trod enc P w base spare held k e)) (List.range len)) with
       | none=>rw [hm] at h; cases h
       | some xs =>
        have hxl:=mapM_some_length hm
        rw [List.length_range] at hxl
        obtain ⟨els,vs,k1,k2,k3,k4,k5⟩:=slice_typed (top:=top) (a:=a) (e:=e) ih xs 0 fun i x hx=>by
         have hi:i < len:=by have:=(List.getElem?_eq_some_iff.1 hx).1; omega
         have:=mapM_some_get hm i i (by simp [hi])
         rw [hx] at this
         rw [Nat.zero_add]; exact this
        rw [Nat.zero_mul,Nat.add_zero] at k5
        have hlx:els.length=len:=by rw [k1,hxl]
        refine ⟨[.rs els.flatten els.length (szOf P e)],.cons _ _ _ _ ?_ .nil,by simp only [Typed,hu]; exact .inr (.inr ⟨els,rfl,by omega,k2⟩)⟩
        rw [hlx]
        by_cases h0:len=0
        ·rw [h0]; exact .rs0 _ _ _ _
        ·have hsp:=k4 rfl (by omega) (by rw [← sz_cells]; omega)
         obtain ⟨b,o,sp⟩:=a
         have:sp=none:=hsp
         subst this
         exact .rs _ _ _ _ b o vs hlen.2.1 k5 k3
     ·cases h
    ·cases h
   | struct fs =>
    by_cases htl:tilesB P fs.toList 0 (szOf P t)=true
    case neg=>exact ⟨_,bads_conc cs,by simp only [Typed,hu]; exact fun hh=>absurd hh htl⟩
    rw [DataW.trod.eq_def] at h
    simp only [hu] at h
    split at h
    ·rename_i hc
     cases hm:(fs.toList.mapM fun f=>DataW.trod enc P w base spare held k f.type ((cs.drop f.offset).take (P.cellsOf f.type))) with
     | none=>rw [hm] at h; cases h
     | some xs =>
      obtain ⟨parts,p1,p2,p3⟩:=struct_typed (top:=top) ih fs.toList 0 (szOf P t) xs (tilesB_spec htl) (by rw [sz_cells]; exact hc) hm
      rw [List.drop_zero] at p1
      exact ⟨_,p1,by simp only [Typed,hu]; exact fun _=>⟨parts,rfl,p2,p3⟩⟩
    ·cases h
   | _=>exact ⟨_,bads_conc cs,by simp only [Typed,hu]⟩
theorem arg_of {r:Reach} {b0:Nat} {w1:World} {t:TypeId} {v:Value} {d:DataW H} {ps:List MemPlace} (hval:Value.okWide P w1 r b0 t v) (hd:DataW.Trod enc P w base spare held t v d ps)
  (top:Nat):∃ k av l,Conc (inEnv w.heap top) av v∧Typed P k t l∧(l=[av]∨av = .ag l):=by
 obtain ⟨k,hk⟩:=hd
 obtain ⟨l,h1,h2⟩:=typed_of (top:=top) k t _ d ps hk
 by_cases hag:∃ cs,v = .agg cs
 ·obtain ⟨cs,rfl⟩:=hag
  exact ⟨k,.ag l,l,by simpa using Conc.ag l cs.toList h1,h2,.inr rfl⟩
 ·have hc:v.cells = #[v]:=by
   cases v <;> first | rfl | (exact absurd ⟨_,rfl⟩ hag)
  rw [hc] at h1
  cases h1 with
  | cons a l u us c1 c2 =>
   cases c2
   exact ⟨k,a,[a],c1,h2,.inl rfl⟩
end
theorem inEnv_le (H:Array Obj) (a b:Nat):(inEnv H a).le (inEnv H b):=⟨fun _ _ h=>h,fun _ _ h=>h⟩
theorem body_at {S:Self} {n:Nat} {f:FuncId} {xs:List AV} {fn:Func} {c:Code} {st:St} (h:P.funcs[f]? = some fn) (hb:fn.body=some c) (hn:xs.length≤fn.ntmps) (hd:defers 4 c=false:=by rfl) :
  evBody P S n f xs st=endF P fn.results.toList (evC c ⟨P,S,false,fn.ntmps,n⟩ (tmpsOf xs 0 .lf) st):=by
 unfold evBody
 rw [h]
 simp only [hb]
 rw [Nat.ble_eq_true_of_le hn,evCD_plain hd]
end
end Go.Ev
namespace Go.Ev
noncomputable section
variable {P : Program}
def selfW (P:Program) (W:Self→Self) (n:Nat):Self :=
 @Nat.rec (fun _=>Self) ⟨fun _ _ _=>none,fun _ _ _ _=>.no,fun _ _ _=>none⟩ (fun n s=>W ⟨evBody P s n,fun nt c t st=>evC c ⟨P,s,true,nt,n⟩ t st,evBody P s n⟩) n
theorem selfW_ok (hng:NoNG P) (hmx:P.follows .mixedOrders=true) {W:Self→Self} (hW:∀ S,SelfOK P S→SelfOK P (W S)):∀ n,SelfOK P (selfW P W n)
 | 0=>⟨hng,hmx,⟨fun _ _ _=>up_none,fun _ _ _ _=>upo_no,fun _ _ _=>up_none⟩,fun _ _ h _=>(by cases h),fun _ _ _ _ _ _=>trivial,fun _ _ h _=>(by cases h)⟩
 | n+1=>hW _ ⟨hng,hmx,⟨fun _ _ _=>up_evBody (selfW_ok hng hmx hW n).up,fun nt c t st=>upo_evC c ⟨P,selfW P W n,true,nt,n⟩ (selfW_ok hng hmx hW n).up t st,fun _ _ _=>up_evBody (selfW_ok hng hmx hW n).up⟩,fun hr hc h hn=>body_spec (selfW_ok hng hmx hW n) hr hc h hn,fun {E w st nt c t a b} k hb hr ht hm hl =>
   code_spec (P:=P) (n0:=0) c ⟨P,selfW P W n,true,nt,n⟩ rfl (selfW_ok hng hmx hW n) k hb.symm hr ht hm (Nat.zero_le _) hl,fun hr hc h hn=>body_specK (selfW_ok hng hmx hW n) hr hc h hn⟩
end
end Go.Ev
namespace Go.Ev
noncomputable section
section
variable {P : Program} {S : Self} {nt : Nat} {ops : Array Oper} {t : Tr AV} {st : St} {l : List Oper}
@[simp] theorem recs_nil:recs P S nt ops [] t st=some [⟨t,st,.un,false⟩]:=rfl
@[simp] theorem recs_cons {d:Option Tmp} {op:Op} {ty:TypeId} {pos:String} {af:Array Edge}:recs P S nt ops (⟨d,op,ty,pos,af,none⟩ :: l) t st=recsV nt t st d (opH op P S t st) (recs P S nt ops l):=rfl
@[simp] theorem recs_guard {d:Option Tmp} {op:Op} {ty:TypeId} {pos:String} {af:Array Edge} {j:Nat} {b:Bool}:recs P S nt ops (⟨d,op,ty,pos,af,some (j,b)⟩ :: l) t st =
  match guardBy ops t j b with
  | some true=>recsV nt t st d (opH op P S t st) (recs P S nt ops l)
  | some false=>recsT ⟨t,st,.un,false⟩ (putT nt t d .un) fun t=>recs P S nt ops l t st
  | none=>none:=rfl
@[simp] theorem recsV_some {d:Option Tmp} {v:AV} {st':St} {k:Tr AV→St→Option (List Rec)}:recsV nt t st d (some (v,st')) k=recsT ⟨t,st,v,true⟩ (putT nt t d v) fun t=>k t st':=rfl
@[simp] theorem recsT_some {r:Rec} {k:Tr AV→Option (List Rec)}:recsT r (some t) k=onRec r (k t):=rfl
@[simp] theorem onRec_some {r:Rec} {l:List Rec}:onRec r (some l)=some (r :: l):=rfl
theorem recheck_of {R:List Rec} {j p:Nat} {r q:Rec} {o:Oper} (h1:R[j]? = some r) (h2:R[p]? = some q) (h3:ops[j]? = some o) {u:AV} {s:St} (h4:opH o.op P S r.t q.st=some (u,s)) (h5:avEq 4 r.v u=true):recheck P S ops R (j,p)=true:=by
 unfold recheck
 simp only [h1,h2,h3]
 unfold recheckO
 cases hw:r.w
 ·rfl
 ·show sameR r.v (evOp P S r.t q.st o)=true
  have:evOp P S r.t q.st o=some (u,s):=h4
  rw [this]
  show (avEq 4 r.v u || eqCl r.v u)=true
  rw [h5]; rfl
theorem recheck_eq {R:List Rec} {j p:Nat} {r q:Rec} {o:Oper} (h1:R[j]? = some r) (h2:R[p]? = some q) (h3:ops[j]? = some o) {s:St} (h4:opH o.op P S r.t q.st=some (r.v,s)):recheck P S ops R (j,p)=true:=by
 unfold recheck
 simp only [h1,h2,h3]
 unfold recheckO
 cases hw:r.w
 ·rfl
 ·show sameR r.v (evOp P S r.t q.st o)=true
  have:evOp P S r.t q.st o=some (r.v,s):=h4
  rw [this]
  show (avEq 4 r.v r.v || eqCl r.v r.v)=true
  have:eqCl r.v r.v=true:=@decide_eq_true _ (Classical.propDecidable _) rfl
  rw [this,Bool.or_true]
theorem avEq_i (k:IntKind) (n:Int):avEq 4 (.i k n) (.i k n)=true:=by
 simp [avEq,keq,ieq_eq]
@[simp] theorem opH_field {s:TypeId} {a:Operand} {n:Nat}:opH (.field s a n) P S t st=match fieldOf P s n,evO t a with | some f,.ag cs=>give st (part P f.type cs f.offset) | _,_=>none:=rfl
theorem part_one {ty:TypeId} {cs:List AV} {o:Nat} (h:hasInfo P ty=true) (ha:isAg P ty=false):part P ty cs o=oneOf (cut cs o 1):=by unfold part; rw [h,ha]
@[simp] theorem opH_box {ty:TypeId} {a:Operand}:opH (.box ty a) P S t st=allocC st (evO t a).cells:=rfl
@[simp] theorem allocC_some (l:List AV):allocC st (some l)=some (.p st.next 0,st.newCe l):=rfl
@[simp] theorem agOf_some (l:List AV):agOf (some l)=some (.ag l):=rfl
theorem cut_drop:∀ (l:List AV) (o n:Nat),o+n≤l.length→cut l o n=some ((l.drop o).take n)
 | l,0,n,h=>by rw [cut_zero,takeN_take _ _ (by omega),List.drop_zero]
 | [],o+1,n,h=>by simp at h
 | v :: l,o+1,n,h=>by rw [cut_succ,cut_drop l o n (by simp at h; omega)]; simp
theorem str_eql {ty:TypeId} {c:Bool} {x y:List Nat}:Go.Ev.binOp P ty c .eql (.s x) (.s y)=some (.b (leq x y)):=rfl
@[simp] theorem opH_max {as1:Array Operand} {ts:Array TypeId}:opH (.call { callee:=.builtin .max,args:=as1,argTypes:=ts }) P S t st=bMax P st ts.toList (args t as1.toList):=rfl
theorem max_zero {ts:List TypeId} (m:Int):bMax P st ts [.i .i64 0,.i .i64 m]=some (.i .i64 (m.toNat:Int),st):=by
 show some (AV.i .i64 (@Bool.rec (fun _=>Int) 0 m (ilt 0 m)),st)=_
 rw [ilt_eq]
 by_cases h:(0:Int) < m
 ·rw [decide_eq_true h]
  show some (AV.i .i64 m,st)=_
  rw [show ((m.toNat:Int))=m by omega]
 ·rw [decide_eq_false h]
  show some (AV.i .i64 0,st)=_
  rw [show ((m.toNat:Int))=0 by omega]
end
theorem kp_new {A B A' B':List Nat} {a b c:St} (h:Kp A B a b) (k:Kp A' B' b c) (hA:∀ x,x ∈ A'→a.next≤x) (hB:∀ x,x ∈ B'→a.next≤x):Kp A B a c :=
 ⟨Nat.le_trans h.next k.next,fun r h1 h2=>(k.get r (Nat.lt_of_lt_of_le h1 h.next) fun hh=>absurd (hA r hh) (Nat.not_le.2 h1)).trans (h.get r h1 h2),fun g h1 h2 =>
  (k.live g (Nat.lt_of_lt_of_le h1 h.next) fun hh=>absurd (hB g hh) (Nat.not_le.2 h1)).trans (h.live g h1 h2)⟩
theorem ovr_one:∀ (l:List AV) (i:Nat) (v:AV),ovr l i [v]=l.set i v
 | [],0,v=>rfl
 | x :: l,0,v=>by simp
 | [],i+1,v=>rfl
 | x :: l,i+1,v=>by simp [ovr_one l i v]
end
end Go.Ev
namespace Go.Ev
noncomputable section
mutual
inductive Ex where
 | mk (k:Int) (nm:List Nat) (num:Int) (ps:AV) (b a l:ExL)
inductive ExL where
 | nil (f:Bool)
 | cons (p:List AV) (x:Ex) (l:ExL)
end
def ExL.list:ExL→List (List AV × Ex)
 | .nil _=>[]
 | .cons p x l=>(p,x) :: l.list
def Ex.kind:Ex→Int
 | .mk k _ _ _ _ _ _=>k
def atomK (k:Int):Bool:=decide (k=1) || (decide (k=2) || decide (k=3))
def Ex.atom (x:Ex):Bool:=atomK x.kind
mutual
def Ex.cells:Ex→List AV
 | .mk k nm num ps b a l=>[.i .i64 k,.s nm,.i .i64 num,ps,b.slice 8,a.slice 7,l.slice 11]
def ExL.slice:ExL→Nat→AV
 | .nil true,_=>.sn
 | .nil false,z=>.rs [] 0 z
 | .cons p x l,z=>.rs (p++x.cells++l.flat) (l.len+1) z
def ExL.flat:ExL→List AV
 | .nil _=>[]
 | .cons p x l=>p++x.cells++l.flat
def ExL.len:ExL→Nat
 | .nil _=>0
 | .cons _ _ l=>l.len+1
end
mutual
def Ex.size:Ex→Nat
 | .mk _ _ _ _ b a l=>1+b.size+a.size+l.size
def ExL.size:ExL→Nat
 | .nil _=>0
 | .cons _ x l=>x.size+l.size
end
mutual
def Ex.depth:Ex→Nat
 | .mk _ _ _ _ b a l=>1+max b.depth (max a.depth l.depth)
def ExL.depth:ExL→Nat
 | .nil _=>0
 | .cons _ x l=>max x.depth l.depth
end
def ExL.pre (m:Nat) (l:ExL):Prop:=∀ p ∈ l.list,p.1.length=m
mutual
def Ex.Wf:Ex→Prop
 | .mk k _ _ ps b a l=>(-9223372036854775808≤k∧k≤9223372036854775807)∧(b.pre 1∧a.pre 0∧l.pre 4)∧(b.Wf∧a.Wf∧l.Wf)∧isSc ps=true
def ExL.Wf:ExL→Prop
 | .nil _=>True
 | .cons p x l=>(x.Wf∧allSc p=true)∧l.Wf
end
theorem ExL.wf_list:∀ {l:ExL},l.Wf→∀ p ∈ l.list,p.2.Wf∧allSc p.1=true
 | .nil _,_,p,hp=>by simp [ExL.list] at hp
 | .cons q x l,h,p,hp=>by
  simp only [ExL.Wf] at h
  rcases List.mem_cons.1 hp with rfl | hp
  ·exact h.1
  ·exact ExL.wf_list h.2 p hp
theorem Ex.ind {C:Ex→Prop} (h:∀ k nm num ps b a l,(∀ p ∈ ExL.list b,C p.2)→(∀ p ∈ ExL.list a,C p.2)→(∀ p ∈ ExL.list l,C p.2)→C (.mk k nm num ps b a l)):∀ x,C x :=
 Ex.rec (motive_1:=C) (motive_2:=fun l=>∀ p ∈ ExL.list l,C p.2) (fun k nm num ps b a l hb ha hl=>h k nm num ps b a l hb ha hl)
  (fun f p hp=>by simp [ExL.list] at hp) (fun q x l hx hl p hp=>by
   rcases List.mem_cons.1 hp with rfl | hp
   ·exact hx
   ·exact hl p hp)
theorem Ex.cells_len:∀ x:Ex,x.cells.length=7
 | .mk ..=>by simp [Ex.cells]
theorem ExL.flat_eq:∀ l:ExL,l.flat=(l.list.map fun p=>p.1++p.2.cells).flatten
 | .nil _=>rfl
 | .cons p x l=>by simp [ExL.flat,ExL.list,ExL.flat_eq l]
theorem ExL.len_eq:∀ l:ExL,l.len=l.list.length
 | .nil _=>rfl
 | .cons p x l=>by simp [ExL.len,ExL.list,ExL.len_eq l]
theorem ExL.size_eq:∀ l:ExL,l.size=(l.list.map fun p=>p.2.size).sum
 | .nil _=>rfl
 | .cons p x l=>by simp [ExL.size,ExL.list,ExL.size_eq l]
theorem Ex.size_pos:∀ x:Ex,1≤x.size
 | .mk ..=>by simp only [Ex.size]; omega
theorem ExL.len_le:∀ l:ExL,l.len≤l.size
 | .nil _=>Nat.le_refl _
 | .cons p x l=>by
  have:=x.size_pos
  have:=ExL.len_le l
  simp only [ExL.len,ExL.size]; omega
theorem ExL.size_mem:∀ {l:ExL} {p:List AV × Ex},p ∈ l.list→p.2.size≤l.size
 | .nil _,p,h=>by simp [ExL.list] at h
 | .cons q x l,p,h=>by
  simp only [ExL.size]
  rcases List.mem_cons.1 h with rfl | h
  ·show x.size≤_; omega
  ·have:=ExL.size_mem h; omega
theorem ExL.depth_mem:∀ {l:ExL} {p:List AV × Ex},p ∈ l.list→p.2.depth≤l.depth
 | .nil _,p,h=>by simp [ExL.list] at h
 | .cons q x l,p,h=>by
  simp only [ExL.depth]
  rcases List.mem_cons.1 h with rfl | h
  ·show x.depth≤_; omega
  ·have:=ExL.depth_mem h; omega
theorem ExL.slice_len (l:ExL) (z:Nat):lenOf (l.slice z)=some l.len:=by
 cases l with
 | nil f=>cases f <;> simp [ExL.slice,ExL.len] <;> rfl
 | cons p x l=>simp [ExL.slice,ExL.len]; rfl
theorem ExL.slice_text (l:ExL) (z:Nat):isText (l.slice z)=false:=by
 cases l with
 | nil f=>cases f <;> simp [ExL.slice] <;> rfl
 | cons p x l=>simp [ExL.slice]; rfl
theorem ExL.slice_rs {l:ExL} {z i:Nat} (h:i < l.len):l.slice z = .rs l.flat l.len z:=by
 cases l with
 | nil f=>simp [ExL.len] at h
 | cons p x l=>simp [ExL.slice,ExL.flat,ExL.len]
theorem flat_drop {z:Nat}:∀ (L:List (List AV × Ex)) (i:Nat) (h:i < L.length),(∀ p ∈ L,p.1.length+7=z) →
  ((L.map fun p=>p.1++p.2.cells).flatten).drop (i * z)=L[i].1++(L[i].2.cells++((L.drop (i+1)).map fun p=>p.1++p.2.cells).flatten)
 | p :: L,0,_,_=>by simp
 | p :: L,i+1,h,hz=>by
  have:=flat_drop L i (by simpa using h) fun q hq=>hz q (List.mem_cons_of_mem _ hq)
  have hp:=hz p (List.mem_cons_self ..)
  have hl:(p.1++p.2.cells).length=z:=by rw [List.length_append,p.2.cells_len]; omega
  have e:z+i * z - (p.1++p.2.cells).length=i * z:=by omega
  rw [show (i+1) * z=z+i * z by rw [Nat.add_mul]; omega,List.map_cons,List.flatten_cons,List.drop_append,e,List.drop_eq_nil_of_le (as:=p.1++p.2.cells) (by omega),List.nil_append]
  simpa using this
def sumTo (L:List (List AV × Ex)) (i:Nat):Nat:=((L.take i).map fun p=>p.2.size).sum
theorem sumTo_zero (L:List (List AV × Ex)):sumTo L 0=0:=by simp [sumTo]
theorem sumTo_succ {L:List (List AV × Ex)} {i:Nat} (h:i < L.length):sumTo L (i+1)=sumTo L i+L[i].2.size:=by
 have h1:L.take (i+1)=L.take i++[L[i]]:=(List.take_append_getElem h).symm
 simp only [sumTo,h1,List.map_append,List.sum_append,List.map_cons,List.map_nil,List.sum_cons,List.sum_nil,Nat.add_zero]
theorem sumTo_ge (L:List (List AV × Ex)):∀ i,i≤L.length→i≤sumTo L i
 | 0,_=>Nat.zero_le _
 | i+1,h=>by
  have h1:=sumTo_ge L i (by omega)
  have h2:=(L[i]'(by omega)).2.size_pos
  rw [sumTo_succ (by omega:i < L.length)]; omega
theorem sumTo_all (l:ExL):sumTo l.list l.list.length=l.size:=by simp [sumTo,ExL.size_eq]
theorem takeN_app (l r:List AV):takeN l.length (l++r)=some l:=by
 rw [takeN_take _ _ (by simp),List.take_left]
theorem take_cells (x:Ex) (r:List AV):takeN 7 (x.cells++r)=some x.cells:=by
 have:=takeN_app x.cells r
 rwa [x.cells_len] at this
theorem part_at {l:ExL} {m z i:Nat} (hp:l.pre m) (hz:m+7=z) (hi:i < l.list.length):∃ r,l.flat.drop (i * z)=l.list[i].1++(l.list[i].2.cells++r)∧l.list[i].1.length=m:=by
 rw [ExL.flat_eq]
 refine ⟨_,flat_drop l.list i hi fun p h=>by rw [hp p h]; exact hz,hp _ (List.getElem_mem hi)⟩
theorem ExL.depth_le:∀ {l:ExL} {D:Nat},(∀ j (h:j < l.list.length),l.list[j].2.depth≤D)→l.depth≤D
 | .nil _,D,_=>Nat.zero_le _
 | .cons p x l,D,h=>by
  have h0:x.depth≤D:=h 0 (by simp [ExL.list])
  have h1:l.depth≤D:=ExL.depth_le fun j hj=>h (j+1) (by simpa [ExL.list] using hj)
  simp only [ExL.depth]; omega
theorem ExL.slice_sc (l:ExL) (z:Nat):isSc (l.slice z)=true:=by
 cases l with
 | nil f=>cases f <;> simp [ExL.slice]
 | cons p x l=>simp [ExL.slice]
theorem Ex.cells_sc:∀ {x:Ex},x.Wf→allSc x.cells=true
 | .mk k nm num ps b a l,h=>by
  simp only [Ex.Wf] at h
  simp [Ex.cells,ExL.slice_sc,h.2.2.2]
theorem allSc_append {l m:List AV} (h1:allSc l=true) (h2:allSc m=true):allSc (l++m)=true:=by
 induction l with
 | nil=>exact h2
 | cons v l ih =>
  rw [allSc_cons,Bool.and_eq_true] at h1
  rw [List.cons_append,allSc_cons,h1.1,ih h1.2]; rfl
theorem over_all {α:Type}:∀ {l vs:List α},vs.length=l.length→over l vs=vs
 | [],[],_=>rfl
 | x :: l,v :: vs,h=>by rw [over_cons,over_all (by simpa using h)]
theorem alloc_store {s:St} {z cells:List AV} (hl:cells.length=z.length) (hs:allSc cells=true):∃ s',wt (s.newCe z) s.next 0 cells=some s'∧s'.ce s.next=some (cells,s.next,[s.next])∧Kp [] [] s s'∧s.next < s'.next:=by
 have hw:=wt_of (newCe_ce (st:=s) z) 0 cells (by omega) hs
 rw [ovr_zero,over_all hl] at hw
 exact ⟨_,hw,setCe_ce _ _ _,kp_new (.newCe [] [] z) (.setCe (A:=[s.next]) (B:=[s.next]) (by simp) (by simp)) (by simp) (by simp),Nat.lt_succ_self _⟩
theorem opH_alloc {P:Program} {S:Self} {t:Tr AV} {st:St} {e:TypeId}:opH (.alloc e) P S t st=allocC st (zeroC P e):=rfl
theorem store_ag {P:Program} {ty:TypeId} {n:Nat} (h:hasInfo P ty=true) (hs:szOf P ty=n):∀ (st:St) (r o:Nat) (l:List AV),l.length=n→storeAt P ty st (.p r o) (.ag l)=wt st r o l:=by
 intro st r o l hl
 show storeC P ty st r o (AV.ag l).cells=_
 rw [cells_ag]
 simp [storeC,h,hs,hl]
end
end Go.Ev
