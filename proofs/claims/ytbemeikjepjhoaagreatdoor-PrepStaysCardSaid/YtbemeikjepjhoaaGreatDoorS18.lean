/-
  Equations by which the abstract run is carried out where not all is known: one for each form of code and each operation. · Slices that the call itself made: read, appended to, kept while other rows change.
-/
import Derived.Test.YtbemeikjepjhoaaGreatDoorS17
namespace Go.Ev
noncomputable section
variable {P : Program} {S : Self} {x : Ctx} {t : Tr AV} {st : St} {nt : Nat} {ops : Array Oper} {l : List Oper}
@[simp] theorem tget_set (t:Tr AV) (n m:Nat) (v:AV):tget (t.set n (some v)) m=if m=n then v else tget t m:=by
 unfold tget; rw [Tr.get_set]; by_cases h:m=n <;> simp [h]
@[simp] theorem tget_lf (m:Nat):tget .lf m = .un:=by unfold tget; rw [Tr.get_lf]
@[simp] theorem evO_tmp (t:Tr AV) (k:Nat):evO t (.tmp k)=tget t k:=rfl
@[simp] theorem evO_int (t:Tr AV) (k:IntKind) (n:Int):evO t (.const (.int k n)) = .i k n:=rfl
@[simp] theorem evO_bool (t:Tr AV) (b:Bool):evO t (.const (.bool b)) = .b b:=rfl
@[simp] theorem evO_pn (t:Tr AV):evO t (.const (.pointer none)) = .pn:=rfl
@[simp] theorem evO_sn (t:Tr AV):evO t (.const (.slice none 0 0)) = .sn:=rfl
@[simp] theorem evO_cn (t:Tr AV):evO t (.const (.chan none)) = .cn:=rfl
@[simp] theorem evO_func (t:Tr AV) (f:FuncId):evO t (.func f) = .f (.func f) [] []:=rfl
@[simp] theorem args_nil (t:Tr AV):args t []=[]:=rfl
@[simp] theorem args_cons (t:Tr AV) (o:Operand) (l:List Operand):args t (o :: l)=evO t o :: args t l:=rfl
@[simp] theorem evC_skip:evC .skip x t st = .nx t st:=rfl
theorem evC_regionC {id:Nat}:evC (.region id ops false) x t st=regC x ops t st:=rfl
def plainR (l:List Oper):Bool:=match l with
 | [o]=>match o.op with | .alloc _=>false | _=>true
 | _=>true
theorem regC_plain (h:plainR ops.toList=true):regC x ops t st=evOps x.P x.S x.nt ops ops.toList t st:=by
 unfold regC
 split
 ·rename_i o e
  unfold reg1
  split
  ·rename_i e' ho
   rw [e] at h
   simp only [plainR,ho] at h
   cases h
  ·rfl
 ·rfl
theorem regC_var {o:Oper} {e:TypeId} (h:ops.toList=[o]) (ho:o.op = .alloc e) (hs:selfPtr x.P e=false):regC x ops t st=evOps x.P x.S x.nt ops ops.toList t st:=by
 unfold regC
 split
 ·rename_i o' e'
  rw [h] at e'
  cases e'
  unfold reg1
  split
  ·rename_i e1 ho1
   rw [ho] at ho1; cases ho1
   unfold regD
   split
   ·unfold regV; rw [hs]
   ·rfl
  ·rfl
 ·rfl
def isAl (o:Op):Bool:=match o with | .alloc _=>true | _=>false
theorem isAl_of {o:Op} (h:∀ e,o≠.alloc e):isAl o=false:=by
 unfold isAl
 split
 ·exact absurd rfl (h _)
 ·rfl
@[simp] theorem isAl_assign {a:Operand}:isAl (.assign a)=false:=isAl_of (by intro e h; cases h)
@[simp] theorem isAl_move {a:Operand}:isAl (.move a)=false:=isAl_of (by intro e h; cases h)
@[simp] theorem isAl_bin {op:BinOp} {a b:Operand} {t u:TypeId}:isAl (.binOp op t a b u)=false:=isAl_of (by intro e h; cases h)
@[simp] theorem isAl_un {op:UnOp} {t:TypeId} {a:Operand}:isAl (.unOp op t a)=false:=isAl_of (by intro e h; cases h)
@[simp] theorem isAl_box {t:TypeId} {a:Operand}:isAl (.box t a)=false:=isAl_of (by intro e h; cases h)
@[simp] theorem isAl_call {c:Call}:isAl (.call c)=false:=isAl_of (by intro e h; cases h)
@[simp] theorem isAl_store {t:TypeId} {a b:Operand}:isAl (.store t a b)=false:=isAl_of (by intro e h; cases h)
@[simp] theorem isAl_load {t:TypeId} {a:Operand}:isAl (.load t a)=false:=isAl_of (by intro e h; cases h)
@[simp] theorem isAl_mapUpdate {t:TypeId} {a b c:Operand}:isAl (.mapUpdate t a b c)=false:=isAl_of (by intro e h; cases h)
@[simp] theorem isAl_lookup {t:TypeId} {a b:Operand} {c:Bool}:isAl (.lookup t a b c)=false:=isAl_of (by intro e h; cases h)
@[simp] theorem isAl_extract {a:Operand} {n:Nat}:isAl (.extract a n)=false:=isAl_of (by intro e h; cases h)
@[simp] theorem isAl_makeMap {t:TypeId} {a:Option Operand}:isAl (.makeMap t a)=false:=isAl_of (by intro e h; cases h)
@[simp] theorem isAl_range {t:TypeId} {a:Operand}:isAl (.range t a)=false:=isAl_of (by intro e h; cases h)
@[simp] theorem plainR_nil:plainR []=true:=by unfold plainR; exact id rfl
@[simp] theorem plainR_one {o:Oper}:plainR [o] = !isAl o.op:=by
 unfold plainR isAl
 simp only
 split <;> exact id rfl
@[simp] theorem plainR_two {o p:Oper} {l:List Oper}:plainR (o :: p :: l)=true:=by unfold plainR; exact id rfl
@[simp] theorem evC_region {id:Nat} (h:plainR ops.toList=true):evC (.region id ops false) x t st=evOps x.P x.S x.nt ops ops.toList t st:=regC_plain h
theorem evC_draw {id:Nat}:evC (.region id ops true) x t st=drawC x ops t st:=rfl
@[simp] theorem evC_seq {a b:Code}:evC (.seq a b) x t st=thenC (evC a x t st) (evC b x):=rfl
@[simp] theorem evC_cond {c:Operand} {a b:Code}:evC (.cond c a b) x t st=condC (evC a x) (evC b x) t st (evO t c):=rfl
@[simp] theorem evC_block {id:Nat} {b:Code}:evC (.block id b) x t st=blockC id (evC b x t st):=rfl
theorem evC_loop {b:Code}:evC (.loop b) x t st=loopC (evC b x) x.n t st:=rfl
@[simp] theorem evC_exit {id:Nat}:evC (.exit id) x t st = .ex id t st:=rfl
@[simp] theorem evC_ret:evC .ret x t st = .rt t st:=rfl
@[simp] theorem thenC_nx (k:Tr AV→St→Out):thenC (.nx t st) k=k t st:=rfl
@[simp] theorem thenC_ex (k:Tr AV→St→Out) (i:Nat):thenC (.ex i t st) k = .ex i t st:=rfl
@[simp] theorem thenC_rt (k:Tr AV→St→Out):thenC (.rt t st) k = .rt t st:=rfl
@[simp] theorem condC_b (a b:Tr AV→St→Out) (c:Bool):condC a b t st (.b c)=if c=true then a t st else b t st:=by cases c <;> rfl
@[simp] theorem blockC_nx (id:Nat):blockC id (.nx t st) = .nx t st:=rfl
@[simp] theorem blockC_rt (id:Nat):blockC id (.rt t st) = .rt t st:=rfl
@[simp] theorem blockC_ex (id i:Nat):blockC id (.ex i t st)=if i=id then .nx t st else .ex i t st:=by
 unfold blockC; simp only [nbeq]; by_cases h:i=id <;> simp [h]
theorem loopC_succ (b:Tr AV→St→Out) (n:Nat):loopC b (n+1) t st=thenC (b t st) (loopC b n):=rfl
@[simp] theorem evOps_nil:evOps P S nt ops [] t st = .nx t st:=rfl
@[simp] theorem evOps_cons {d:Option Tmp} {op:Op} {ty:TypeId} {pos:String} {af:Array Edge}:evOps P S nt ops (⟨d,op,ty,pos,af,none⟩ :: l) t st=onV nt t d (opH op P S t st) (evOps P S nt ops l):=rfl
@[simp] theorem evOps_guard {d:Option Tmp} {op:Op} {ty:TypeId} {pos:String} {af:Array Edge} {j:Nat} {b:Bool}:evOps P S nt ops (⟨d,op,ty,pos,af,some (j,b)⟩ :: l) t st =
  onG P S nt ⟨d,op,ty,pos,af,some (j,b)⟩ t st (evOps P S nt ops l) (guardBy ops t j b):=rfl
@[simp] theorem onV_some {d:Option Tmp} {v:AV} {st':St} {k:Tr AV→St→Out}:onV nt t d (some (v,st')) k=onT (putT nt t d v) fun t=>k t st':=rfl
@[simp] theorem onT_some {t:Tr AV} {k:Tr AV→Out}:onT (some t) k=k t:=Tr.seen_eq t k
@[simp] theorem putT_none {v:AV}:putT nt t none v=some t:=rfl
@[simp] theorem putT_some {d:Tmp} {v:AV}:putT nt t (some d) v=if d < nt then some (t.set d (some v)) else none:=by
 unfold putT
 simp only [AV.seen_eq]
 by_cases h:d < nt
 ·rw [if_pos h,show Nat.blt d nt=true by simpa using h]
 ·rw [if_neg h,show Nat.blt d nt=false by rw [Bool.eq_false_iff]; simpa using h]
@[simp] theorem onG_true {o:Oper} {k:Tr AV→St→Out}:onG P S nt o t st k (some true)=onV nt t o.dst (opH o.op P S t st) k:=rfl
@[simp] theorem onG_false {o:Oper} {k:Tr AV→St→Out}:onG P S nt o t st k (some false)=onT (putT nt t o.dst .un) fun t=>k t st:=rfl
@[simp] theorem guardBy_list {j:Nat} {b:Bool}:guardBy ops t j b=match ops.toList[j]? with | some g=>(match g.dst with | some d=>guardV b (t.get d) | none=>none) | none=>none:=by
 unfold guardBy; rw [Array.getElem?_toList]; cases ops[j]? <;> rfl
@[simp] theorem guardV_eq {b:Bool} {d:Tmp}:guardV b (t.get d)=match tget t d with | .b y=>some (y == b) | .un=>some false | _=>none:=by
 unfold tget
 cases h:t.get d with
 | none=>rfl
 | some v=>cases v <;> rfl
@[simp] theorem opH_move {a:Operand}:opH (.move a) P S t st=some (evO t a,st):=rfl
@[simp] theorem opH_assign {a:Operand}:opH (.assign a) P S t st=some (evO t a,st):=rfl
@[simp] theorem opH_pick {c a b:Operand}:opH (.pick c a b) P S t st=pickB (evO t a) (evO t b) st (evO t c).asB:=rfl
@[simp] theorem pickB_some (a b:AV) (c:Bool):pickB a b st (some c)=some (if c=true then a else b,st):=by cases c <;> rfl
@[simp] theorem asB_b (c:Bool):(AV.b c).asB=some c:=rfl
@[simp] theorem opH_nilCheck {a:Operand}:opH (.nilCheck a) P S t st=notNil st (evO t a):=rfl
@[simp] theorem notNil_p (r o:Nat):notNil st (.p r o)=some (.p r o,st):=rfl
@[simp] theorem notNil_rp (c:List AV):notNil st (.rp c)=some (.rp c,st):=rfl
@[simp] theorem opH_fieldAddr {s:TypeId} {a:Operand} {n:Nat}:opH (.fieldAddr s a n) P S t st=match fieldOff P s n with | some o=>fieldAt o st (evO t a) | none=>none:=rfl
@[simp] theorem fieldAt_p (r k o:Nat):fieldAt o st (.p r k)=some (.p r (k+o),st):=rfl
@[simp] theorem fieldAt_rp (c:List AV) (o:Nat):fieldAt o st (.rp c)=some (.rp (c.drop o),st):=rfl
@[simp] theorem opH_load {ty:TypeId} {a:Operand}:opH (.load ty a) P S t st=give st (loadAt P ty st (evO t a)):=rfl
@[simp] theorem give_some {v:AV}:give st (some v)=some (v,st):=rfl
theorem load_p {ty:TypeId} {r o:Nat} (h:hasInfo P ty=true) (ha:isAg P ty=false):loadAt P ty st (.p r o)=oneOf (rd st r o 1):=by unfold loadAt; rw [h,ha]; rfl
theorem load_rp {ty:TypeId} {c:List AV} (h:hasInfo P ty=true) (ha:isAg P ty=false):loadAt P ty st (.rp c)=oneOf (cut c 0 1):=by unfold loadAt; rw [h,ha]; rfl
theorem load_ag {ty:TypeId} {r o:Nat} (h:hasInfo P ty=true) (ha:isAg P ty=true):loadAt P ty st (.p r o)=agOf (rd st r o (szOf P ty)):=by unfold loadAt; rw [h,ha]; rfl
theorem load_rpAg {ty:TypeId} {c:List AV} (h:hasInfo P ty=true) (ha:isAg P ty=true):loadAt P ty st (.rp c)=agOf (cut c 0 (szOf P ty)):=by unfold loadAt; rw [h,ha]; rfl
theorem rd_of {r o n:Nat} {l:List AV} {g:Nat} {al:List Nat} (h:st.ce r=some (l,g,al)):rd st r o n=cut l o n:=by unfold rd; rw [h]
@[simp] theorem cut_zero (l:List AV) (n:Nat):cut l 0 n=takeN n l:=by cases l <;> rfl
@[simp] theorem cut_succ (v:AV) (l:List AV) (o n:Nat):cut (v :: l) (o+1) n=cut l o n:=rfl
@[simp] theorem takeN_zero (l:List AV):takeN 0 l=some []:=by cases l <;> rfl
@[simp] theorem takeN_one (v:AV) (l:List AV):takeN 1 (v :: l)=some [v]:=by cases l <;> rfl
@[simp] theorem oneOf_one (v:AV):oneOf (some [v])=some v:=rfl
@[simp] theorem opH_store {ty:TypeId} {a b:Operand}:opH (.store ty a b) P S t st=done (storeAt P ty st (evO t a) (evO t b)):=rfl
@[simp] theorem done_some {st':St}:done (some st')=some (.un,st'):=rfl
theorem store_p {ty:TypeId} (h:hasInfo P ty=true) (hs:szOf P ty=1):∀ (st:St) (r o:Nat) (v:AV),v.cells=some [v]→storeAt P ty st (.p r o) v=wt st r o [v]:=by
 intro st r o v hv
 show storeC P ty st r o v.cells=_
 rw [hv]
 simp [storeC,h,hs]
@[simp] theorem cells_i (k:IntKind) (n:Int):(.i k n:AV).cells=some [.i k n]:=by rw [AV.cells_eq]
@[simp] theorem isSc_i (k:IntKind) (n:Int):isSc (.i k n)=true:=rfl
@[simp] theorem cells_b (x:Bool):(.b x:AV).cells=some [.b x]:=by rw [AV.cells_eq]
@[simp] theorem isSc_b (x:Bool):isSc (.b x)=true:=rfl
@[simp] theorem cells_p (r o:Nat):(.p r o:AV).cells=some [.p r o]:=by rw [AV.cells_eq]
@[simp] theorem isSc_p (r o:Nat):isSc (.p r o)=true:=rfl
@[simp] theorem cells_pn  : (.pn:AV).cells=some [.pn]:=by rw [AV.cells_eq]
@[simp] theorem isSc_pn  : isSc (.pn)=true:=rfl
@[simp] theorem cells_sn  : (.sn:AV).cells=some [.sn]:=by rw [AV.cells_eq]
@[simp] theorem isSc_sn  : isSc (.sn)=true:=rfl
@[simp] theorem cells_rs (c:List AV) (n z:Nat):(.rs c n z:AV).cells=some [.rs c n z]:=by rw [AV.cells_eq]
@[simp] theorem isSc_rs (c:List AV) (n z:Nat):isSc (.rs c n z)=true:=rfl
@[simp] theorem cells_rp (c:List AV):(.rp c:AV).cells=some [.rp c]:=by rw [AV.cells_eq]
@[simp] theorem isSc_rp (c:List AV):isSc (.rp c)=true:=rfl
@[simp] theorem cells_c (r:Nat):(.c r:AV).cells=some [.c r]:=by rw [AV.cells_eq]
@[simp] theorem isSc_c (r:Nat):isSc (.c r)=true:=rfl
@[simp] theorem cells_sl (r o n z:Nat) (c:Option Nat):(.sl r o n z c:AV).cells=some [.sl r o n z c]:=by rw [AV.cells_eq]
@[simp] theorem isSc_sl (r o n z:Nat) (c:Option Nat):isSc (.sl r o n z c)=true:=rfl
@[simp] theorem cells_s (l:List Nat):(.s l:AV).cells=some [.s l]:=by rw [AV.cells_eq]
@[simp] theorem isSc_s (l:List Nat):isSc (.s l)=true:=rfl
@[simp] theorem cells_m (r:Nat):(.m r:AV).cells=some [.m r]:=by rw [AV.cells_eq]
@[simp] theorem isSc_m (r:Nat):isSc (.m r)=true:=rfl
@[simp] theorem cells_mn  : (.mn:AV).cells=some [.mn]:=by rw [AV.cells_eq]
@[simp] theorem isSc_mn  : isSc (.mn)=true:=rfl
@[simp] theorem cells_ag (l:List AV):(AV.ag l).cells=some l:=by rw [AV.cells_eq]
@[simp] theorem allSc_nil:allSc []=true:=rfl
@[simp] theorem allSc_cons (v:AV) (l:List AV):allSc (v :: l)=(isSc v && allSc l):=by show (@Bool.rec (fun _=>Bool) false (allSc l) (isSc v))=_; cases isSc v <;> rfl
@[simp] theorem ovr_zero {α:Type} (l vs:List α):ovr l 0 vs=over l vs:=by cases l <;> rfl
@[simp] theorem ovr_succ {α:Type} (x:α) (l vs:List α) (o:Nat):ovr (x :: l) (o+1) vs=x :: ovr l o vs:=rfl
@[simp] theorem over_nil {α:Type} (l:List α):over l []=l:=by cases l <;> rfl
@[simp] theorem over_cons {α:Type} (x v:α) (l vs:List α):over (x :: l) (v :: vs)=v :: over l vs:=rfl
def St.setCe (st:St) (r:Nat) (l:List AV) (g:Nat):St:=⟨st.rows.set r (some (.ce l g)),st.live.set g (some [r]),st.next⟩
theorem wt_of {r:Nat} {l:List AV} {g:Nat} {al:List Nat} (h:st.ce r=some (l,g,al)):∀ (o:Nat) (vs:List AV),o+vs.length≤l.length→allSc vs=true→wt st r o vs=some (st.setCe r (ovr l o vs) g):=by
 intro o vs hl hv
 unfold wt
 rw [h]
 have:Nat.ble (o+vs.length) l.length=true:=Nat.ble_eq_true_of_le hl
 simp only [this,hv,Bool.and_self]
 rfl
@[simp] theorem opH_bin {op:BinOp} {ty y0:TypeId} {a b:Operand}:opH (.binOp op ty a b y0) P S t st=give st (binOp P ty (isK a || isK b) op (evO t a) (evO t b)):=rfl
@[simp] theorem opH_un {op:UnOp} {y0:TypeId} {a:Operand}:opH (.unOp op y0 a) P S t st=give st (Go.Ev.unOp op (evO t a)):=rfl
@[simp] theorem un_not (b:Bool):Go.Ev.unOp .not (.b b)=some (.b !b):=rfl
section
variable {c : Bool} {ty : TypeId} {k : IntKind} {a b : Int}
theorem keq_self (k:IntKind):keq k k=true:=by simp [keq]
theorem binOp_ii {op:BinOp}:binOp P ty c op (.i k a) (.i k b)=intAny op k a k b (intOp op k a b):=by
 show intAny op k a k b (sameK op k a k b)=_
 unfold sameK; rw [keq_self]
@[simp] theorem bin_add:binOp P ty c .add (.i k a) (.i k b)=some (.i k (wr k (a+b))):=binOp_ii
@[simp] theorem bin_sub:binOp P ty c .sub (.i k a) (.i k b)=some (.i k (wr k (a - b))):=binOp_ii
@[simp] theorem bin_lss:binOp P ty c .lss (.i k a) (.i k b)=some (.b (decide (a < b))):=by rw [binOp_ii]; show some (AV.b (ilt a b))=_; rw [ilt_eq]
@[simp] theorem bin_gtr:binOp P ty c .gtr (.i k a) (.i k b)=some (.b (decide (b < a))):=by rw [binOp_ii]; show some (AV.b (ilt b a))=_; rw [ilt_eq]
@[simp] theorem bin_leq:binOp P ty c .leq (.i k a) (.i k b)=some (.b (decide (a≤b))):=by
 rw [binOp_ii]; show some (AV.b (!ilt b a))=_; rw [ilt_eq]; congr 2; by_cases h:a≤b <;> simp [h] <;> omega
@[simp] theorem bin_geq:binOp P ty c .geq (.i k a) (.i k b)=some (.b (decide (b≤a))):=by
 rw [binOp_ii]; show some (AV.b (!ilt a b))=_; rw [ilt_eq]; congr 2; by_cases h:b≤a <;> simp [h] <;> omega
@[simp] theorem bin_eql:binOp P ty c .eql (.i k a) (.i k b)=some (.b (decide (a=b))):=by rw [binOp_ii]; show some (AV.b (ieq a b))=_; rw [ieq_eq]
@[simp] theorem bin_neq:binOp P ty c .neq (.i k a) (.i k b)=some (.b (decide (a≠b))):=by
 rw [binOp_ii]; show some (AV.b (!ieq a b))=_; rw [ieq_eq]; simp
theorem bin_rem (h:b≠0):binOp P ty c .rem (.i k a) (.i k b)=some (.i k (a.tmod b)):=by
 rw [binOp_ii]; show intDivOk b (.i k (a.tmod b))=_; unfold intDivOk; rw [ieq_eq]; simp [h]
end
theorem wr_in {n:Int} (h1:-9223372036854775808≤n) (h2:n≤9223372036854775807):wr .i64 n=n:=by
 rw [wr_eq]; exact IntWalk.i64_in n ⟨h1,h2⟩
@[simp] theorem opH_callF {f:FuncId} {as:Array Operand} {ts:Array TypeId}:opH (.call { callee:=.value (.func f),args:=as,argTypes:=ts }) P S t st=callF P S f (args t as.toList) st:=by
 show callV P S st (args t as.toList) (.f (.func f) [] [])=_
 simp [callV]
theorem callF_of {f:FuncId} {fn:Func} {c:Code} {as:List AV} (h:P.funcs[f]? = some fn) (hb:fn.body=some c):callF P S f as st=S.call f as st:=by
 unfold callF; rw [h]; simp only [callX,hb]
@[simp] theorem opH_len {as:Array Operand} {ts:Array TypeId}:opH (.call { callee:=.builtin .len,args:=as,argTypes:=ts }) P S t st=bLen P st ts.toList (args t as.toList):=rfl
theorem len_sl {ty e:TypeId} {v:AV} {n:Nat} (h:P.underlying ty=some (.slice e)) (hl:lenOf v=some n) (ht:isText v=false):bLen P st [ty] [v]=some (.i .i64 (n:Int),st):=by
 simp [bLen,bLen1,h,hl,ht,int64]
@[simp] theorem opH_send {a b:Operand}:opH (.send a b) P S t st=sendOf st (evO t b) (evO t a):=rfl
@[simp] theorem opH_select {cs:Array SelectCase} {bl:Bool}:opH (.select cs bl) P S t st=opSelect cs bl P S t st:=rfl
@[simp] theorem select_one {ch:Operand} {e:TypeId}:opSelect #[⟨ch,none,e⟩] false P S t st=takeZ st (evO t ch) (zeroOf P e):=rfl
@[simp] theorem opH_extract {a:Operand} {n:Nat}:opH (.extract a n) P S t st=nth n st (evO t a):=rfl
@[simp] theorem nth_tu (l:List AV) (n:Nat):nth n st (.tu l)=give st l[n]?:=rfl
@[simp] theorem opH_indexAddr {ty:TypeId} {a b:Operand}:opH (.indexAddr ty a b) P S t st=give st (indexAddr P ty (evO t a) (evO t b)):=rfl
theorem index_rs {ty e:TypeId} {z:Nat} (he:P.underlying ty=some (.slice e)) (hi:hasInfo P e=true) (hz:szOf P e=z):∀ (c:List AV) (n k:Nat),k < n→indexAddr P ty (.rs c n z) (.i .i64 (k:Int))=some (.rp (c.drop (k * z))):=by
 intro c n k hk
 show (match elOf P ty with | some e=>(@Bool.rec (fun _=>_) none (some (AV.rp (c.drop (k * z)))) (Nat.blt k n && hasInfo P e && Nat.beq (szOf P e) z)) | none=>none)=_
 have:Nat.blt k n=true:=Nat.ble_eq_true_of_le hk
 simp [elOf,he,this,hi,hz]
theorem index_sl {ty e:TypeId} {z:Nat} (he:P.underlying ty=some (.slice e)) (hi:hasInfo P e=true) (hz:szOf P e=z):∀ (r o n k:Nat) (c:Option Nat),k < n→indexAddr P ty (.sl r o n z c) (.i .i64 (k:Int))=some (.p r (o+k * z)):=by
 intro r o n k c hk
 show (match elOf P ty with | some e=>(@Bool.rec (fun _=>_) none (some (AV.p r (o+k * z))) (Nat.blt k n && hasInfo P e && Nat.beq (szOf P e) z)) | none=>none)=_
 have:Nat.blt k n=true:=Nat.ble_eq_true_of_le hk
 simp [elOf,he,this,hi,hz]
theorem ce_three {r:Nat} {l:List AV} {g:Nat} {al:List Nat} (h:st.ce r=some (l,g,al)):st.get r=some (.ce l g)∧st.live.get g=some al∧mem r al=true:=by
 unfold St.ce at h
 cases hg:st.get r with
 | none=>rw [hg] at h; cases h
 | some row =>
  rw [hg] at h
  cases row <;> first | (cases h; done) | skip
  rename_i l' g'
  cases hl:st.live.get g' with
  | none=>simp only [hl] at h; cases h
  | some al' =>
   simp only [hl] at h
   obtain ⟨h1,h2⟩:=bor h
   cases h2
   exact ⟨rfl,hl,h1⟩
theorem ce_get {r:Nat} {l:List AV} {g:Nat} {al:List Nat} (h:st.ce r=some (l,g,al)):st.get r=some (.ce l g):=(ce_three h).1
theorem setCe_ce (r:Nat) (l:List AV) (g:Nat):(st.setCe r l g).ce r=some (l,g,[r]):=by
 simp [St.setCe,St.ce,St.get,Tr.get_set,mem]
theorem setCe_get {r r':Nat} {l:List AV} {g:Nat} (h:r'≠r):(st.setCe r l g).get r'=st.get r':=by
 simp [St.setCe,St.get,Tr.get_set,h]
theorem put_get (r:Nat) (w:Row):(st.put r w).get r=some w:=by rw [St.get_put,if_pos rfl]
structure Keep (A:List Nat) (st st':St):Prop where
 next:st.next≤st'.next
 get:∀ r,r < st.next→r ∉ A→st'.get r=st.get r
 live:∀ g,g < st.next→g ∉ A→st'.live.get g=st.live.get g
theorem Keep.refl (A:List Nat) (st:St):Keep A st st:=⟨Nat.le_refl _,fun _ _ _=>rfl,fun _ _ _=>rfl⟩
theorem Keep.trans {A:List Nat} {a b c:St} (h:Keep A a b) (k:Keep A b c):Keep A a c :=
 ⟨Nat.le_trans h.next k.next,fun r h1 h2=>(k.get r (Nat.lt_of_lt_of_le h1 h.next) h2).trans (h.get r h1 h2),fun r h1 h2=>(k.live r (Nat.lt_of_lt_of_le h1 h.next) h2).trans (h.live r h1 h2)⟩
theorem Keep.sub {A B:List Nat} {a b:St} (h:Keep A a b) (hs:∀ x,x ∈ A→x ∈ B):Keep B a b:=⟨h.next,fun r h1 h2=>h.get r h1 fun hh=>h2 (hs _ hh),fun r h1 h2=>h.live r h1 fun hh=>h2 (hs _ hh)⟩
theorem Keep.setCe {A:List Nat} {r:Nat} {l:List AV} {g:Nat} (h1:r ∈ A) (h2:g ∈ A):Keep A st (st.setCe r l g) :=
 ⟨Nat.le_refl _,fun r' _ h=>setCe_get fun e=>h (e ▸ h1),fun g' _ h=>by
  have:g'≠g:=fun e=>h (e ▸ h2)
  simp [St.setCe,Tr.get_set,this]⟩
theorem Keep.put {A:List Nat} {r:Nat} {w:Row} (h1:r ∈ A):Keep A st (st.put r w) :=
 ⟨Nat.le_refl _,fun r' _ h=>by
  have:r'≠r:=fun e=>h (e ▸ h1)
  rw [St.get_put,if_neg this],fun _ _ _=>rfl⟩
theorem Keep.ce {A:List Nat} {st st':St} (h:Keep A st st') {r:Nat} {l:List AV} {g:Nat} {al:List Nat} (hc:st.ce r=some (l,g,al)) (h1:r < st.next) (h2:g < st.next) (h3:r ∉ A) (h4:g ∉ A):st'.ce r=some (l,g,al):=by
 obtain ⟨k1,k2,k3⟩:=ce_three hc
 unfold St.ce
 rw [h.get r h1 h3,k1]
 simp only
 rw [h.live g h2 h4,k2]
 simp only [k3]
theorem loop_run {b:Tr AV→St→Out} {id m:Nat} {Inv:Nat→Tr AV→St→Prop} {Q:Tr AV→St→Prop}
  (step:∀ i t st,i < m→Inv i t st→∃ t' st',b t st = .nx t' st'∧Inv (i+1) t' st') (last:∀ t st,Inv m t st→∃ t' st',b t st = .ex id t' st'∧Q t' st') :
  ∀ (k n i:Nat) (t:Tr AV) (st:St),i+k=m→k < n→Inv i t st→∃ t' st',loopC b n t st = .ex id t' st'∧Q t' st':=by
 intro k
 induction k with
 | zero =>
  intro n i t st hi hn hI
  obtain ⟨n,rfl⟩:∃ n',n=n'+1:=⟨n - 1,by omega⟩
  have:i=m:=by omega
  subst this
  obtain ⟨t',st',h1,h2⟩:=last t st hI
  exact ⟨t',st',by rw [loopC_succ,h1]; rfl,h2⟩
 | succ k ih =>
  intro n i t st hi hn hI
  obtain ⟨n,rfl⟩:∃ n',n=n'+1:=⟨n - 1,by omega⟩
  obtain ⟨t',st',h1,h2⟩:=step i t st (by omega) hI
  obtain ⟨t2,st2,h3,h4⟩:=ih n (i+1) t' st' (by omega) (by omega) h2
  exact ⟨t2,st2,by rw [loopC_succ,h1]; exact h3,h4⟩
theorem loop_use {b:Tr AV→St→Out} {n:Nat} {L:Out} (hL:loopC b n t st=L) (id m:Nat) (Inv:Nat→Tr AV→St→Prop) (Q:Tr AV→St→Prop) (hn:m < n) (h0:Inv 0 t st)
  (step:∀ i t st,i < m→Inv i t st→∃ t' st',b t st = .nx t' st'∧Inv (i+1) t' st') (last:∀ t st,Inv m t st→∃ t' st',b t st = .ex id t' st'∧Q t' st'):∃ t' st',L = .ex id t' st'∧Q t' st':=by
 subst hL
 exact loop_run step last m n 0 t st (Nat.zero_add _) hn h0
theorem loop_ret {b:Tr AV→St→Out} {n:Nat} {L:Out} (hL:loopC b n t st=L) (id m:Nat) (Inv:Nat→Tr AV→St→Prop) (Q R:Tr AV→St→Prop) (hn:m < n) (h0:Inv 0 t st)
  (step:∀ i t st,i < m→Inv i t st→(∃ t' st',b t st = .nx t' st'∧Inv (i+1) t' st')∨∃ t' st',b t st = .rt t' st'∧R t' st') (last:∀ t st,Inv m t st→∃ t' st',b t st = .ex id t' st'∧Q t' st') :
  (∃ t' st',L = .ex id t' st'∧Q t' st')∨∃ t' st',L = .rt t' st'∧R t' st':=by
 subst hL
 have key:∀ (k n i:Nat) (t:Tr AV) (st:St),i+k=m→k < n→Inv i t st→(∃ t' st',loopC b n t st = .ex id t' st'∧Q t' st')∨∃ t' st',loopC b n t st = .rt t' st'∧R t' st':=by
  intro k
  induction k with
  | zero =>
   intro n i t st hi hn hI
   obtain ⟨n,rfl⟩:∃ n',n=n'+1:=⟨n - 1,by omega⟩
   have:i=m:=by omega
   subst this
   obtain ⟨t',st',h1,h2⟩:=last t st hI
   exact .inl ⟨t',st',by rw [loopC_succ,h1]; rfl,h2⟩
  | succ k ih =>
   intro n i t st hi hn hI
   obtain ⟨n,rfl⟩:∃ n',n=n'+1:=⟨n - 1,by omega⟩
   rcases step i t st (by omega) hI with ⟨t',st',h1,h2⟩ | ⟨t',st',h1,h2⟩
   ·rcases ih n (i+1) t' st' (by omega) (by omega) h2 with ⟨t2,st2,h3,h4⟩ | ⟨t2,st2,h3,h4⟩
    ·exact .inl ⟨t2,st2,by rw [loopC_succ,h1]; exact h3,h4⟩
    ·exact .inr ⟨t2,st2,by rw [loopC_succ,h1]; exact h3,h4⟩
   ·exact .inr ⟨t',st',by rw [loopC_succ,h1]; rfl,h2⟩
 exact key m n 0 t st (Nat.zero_add _) hn h0
theorem loop_ex {b:Tr AV→St→Out} {n:Nat} {L:Out} (hL:loopC b n t st=L) (id m:Nat) (Inv:Nat→Tr AV→St→Prop) (Q:Tr AV→St→Prop) (hn:m < n) (h0:Inv 0 t st)
  (step:∀ i t st,i < m→Inv i t st→(∃ t' st',b t st = .nx t' st'∧Inv (i+1) t' st')∨∃ t' st',b t st = .ex id t' st'∧Q t' st') (last:∀ t st,Inv m t st→∃ t' st',b t st = .ex id t' st'∧Q t' st') :
  ∃ t' st',L = .ex id t' st'∧Q t' st':=by
 subst hL
 have key:∀ (k n i:Nat) (t:Tr AV) (st:St),i+k=m→k < n→Inv i t st→∃ t' st',loopC b n t st = .ex id t' st'∧Q t' st':=by
  intro k
  induction k with
  | zero =>
   intro n i t st hi hn hI
   obtain ⟨n,rfl⟩:∃ n',n=n'+1:=⟨n - 1,by omega⟩
   have:i=m:=by omega
   subst this
   obtain ⟨t',st',h1,h2⟩:=last t st hI
   exact ⟨t',st',by rw [loopC_succ,h1]; rfl,h2⟩
  | succ k ih =>
   intro n i t st hi hn hI
   obtain ⟨n,rfl⟩:∃ n',n=n'+1:=⟨n - 1,by omega⟩
   rcases step i t st (by omega) hI with ⟨t',st',h1,h2⟩ | ⟨t',st',h1,h2⟩
   ·obtain ⟨t2,st2,h3,h4⟩:=ih n (i+1) t' st' (by omega) (by omega) h2
    exact ⟨t2,st2,by rw [loopC_succ,h1]; exact h3,h4⟩
   ·exact ⟨t',st',by rw [loopC_succ,h1]; rfl,h2⟩
 exact key m n 0 t st (Nat.zero_add _) hn h0
def IsSl (v:AV) (l:List AV):Prop:=(v = .sn∧l=[])∨v = .rs l l.length 1
theorem IsSl.len {v:AV} {l:List AV} (h:IsSl v l):lenOf v=some l.length:=by
 rcases h with ⟨rfl,rfl⟩ | rfl <;> rfl
theorem IsSl.text {v:AV} {l:List AV} (h:IsSl v l):isText v=false:=by
 rcases h with ⟨rfl,rfl⟩ | rfl <;> rfl
theorem takeN_all:∀ l:List AV,takeN l.length l=some l
 | []=>rfl
 | v :: l=>by simp only [List.length_cons,takeN,takeN_all l]
theorem takeN_get:∀ (l:List AV) (k:Nat) (h:k < l.length),cut l k 1=some [l[k]]
 | v :: l,0,_=>by rw [cut_zero]; exact takeN_one v l
 | v :: l,k+1,h=>by rw [cut_succ]; exact takeN_get l k (by simpa using h)
theorem IsSl.first {v:AV} {l:List AV} (h:IsSl v l) (st:St):firstCells st 1 l.length v=some l:=by
 rcases h with ⟨rfl,rfl⟩ | rfl
 ·rfl
 ·show cut l 0 (l.length * 1)=_
  rw [Nat.mul_one,cut_zero,takeN_all]
@[simp] theorem opH_append {as:Array Operand} {ts:Array TypeId}:opH (.call { callee:=.builtin .append,args:=as,argTypes:=ts }) P S t st=bAppend P st ts.toList (args t as.toList):=rfl
theorem newCe_ce (l:List AV):(st.newCe l).ce st.next=some (l,st.next,[st.next]):=by
 simp [St.newCe,St.ce,St.get,Tr.get_set,mem]
theorem Keep.newCe (A:List Nat) (l:List AV):Keep A st (st.newCe l) :=
 ⟨Nat.le_succ _,fun r h _=>by rw [St.get_newCe,if_neg (Nat.ne_of_lt h)],fun g h _=>by simp [St.newCe,Tr.get_set,Nat.ne_of_lt h]⟩
theorem evCD_plain {x:Ctx} {c:Code} (hd:defers 4 c=false):evCD x c=evC c x:=by
 unfold evCD; rw [hd]
@[simp] theorem tmpsOf_nil (n:Nat):tmpsOf [] n t=t:=rfl
@[simp] theorem tmpsOf_cons (v:AV) (l:List AV) (n:Nat):tmpsOf (v :: l) n t=tmpsOf l (n+1) (t.set n (some v)):=rfl
@[simp] theorem endF_nx (l:List ResultVar):endF P l (.nx t st)=resOf P l t st:=rfl
@[simp] theorem endF_rt (l:List ResultVar):endF P l (.rt t st)=resOf P l t st:=rfl
@[simp] theorem resOne_tmp (k:Tmp):resOne P t st (.tmp k)=some (tget t k):=rfl
theorem resOf_eq (l:List ResultVar):resOf P l t st=match pmapO (resOne P t st) l with | some [v]=>some (v,st) | some vs=>some (.tu vs,st) | none=>none:=rfl
end
end Go.Ev
namespace Go.Ev
noncomputable section
variable {P : Program} {S : Self} {t : Tr AV} {st : St}
structure Kp (A B:List Nat) (st st':St):Prop where
 next:st.next≤st'.next
 get:∀ r,r < st.next→r ∉ A→st'.get r=st.get r
 live:∀ g,g < st.next→g ∉ B→st'.live.get g=st.live.get g
theorem Kp.refl (A B:List Nat) (st:St):Kp A B st st:=⟨Nat.le_refl _,fun _ _ _=>rfl,fun _ _ _=>rfl⟩
theorem Kp.trans {A B:List Nat} {a b c:St} (h:Kp A B a b) (k:Kp A B b c):Kp A B a c :=
 ⟨Nat.le_trans h.next k.next,fun r h1 h2=>(k.get r (Nat.lt_of_lt_of_le h1 h.next) h2).trans (h.get r h1 h2),fun r h1 h2=>(k.live r (Nat.lt_of_lt_of_le h1 h.next) h2).trans (h.live r h1 h2)⟩
theorem Kp.sub {A B A' B':List Nat} {a b:St} (h:Kp A B a b) (h1:∀ x,x ∈ A→x ∈ A') (h2:∀ x,x ∈ B→x ∈ B'):Kp A' B' a b :=
 ⟨h.next,fun r k1 k2=>h.get r k1 fun hh=>k2 (h1 _ hh),fun r k1 k2=>h.live r k1 fun hh=>k2 (h2 _ hh)⟩
theorem Keep.kp {A:List Nat} {a b:St} (h:Keep A a b):Kp A A a b:=⟨h.next,h.get,h.live⟩
theorem Kp.setCe {A B:List Nat} {r:Nat} {l:List AV} {g:Nat} (h1:r ∈ A) (h2:g ∈ B):Kp A B st (st.setCe r l g) :=
 ⟨Nat.le_refl _,fun r' _ h=>setCe_get fun e=>h (e ▸ h1),fun g' _ h=>by
  have:g'≠g:=fun e=>h (e ▸ h2)
  simp [St.setCe,Tr.get_set,this]⟩
theorem Kp.put {A B:List Nat} {r:Nat} {w:Row} (h1:r ∈ A):Kp A B st (st.put r w) :=
 ⟨Nat.le_refl _,fun r' _ h=>by
  have:r'≠r:=fun e=>h (e ▸ h1)
  rw [St.get_put,if_neg this],fun _ _ _=>rfl⟩
theorem Kp.newCe (A B:List Nat) (l:List AV):Kp A B st (st.newCe l):=⟨(Keep.newCe [] l).next,fun r h _=>(Keep.newCe [] l).get r h (by simp),fun g h _=>(Keep.newCe [] l).live g h (by simp)⟩
theorem Kp.ce {A B:List Nat} {st st':St} (h:Kp A B st st') {r:Nat} {l:List AV} {g:Nat} {al:List Nat} (hc:st.ce r=some (l,g,al)) (h1:r < st.next) (h2:g < st.next) (h3:r ∉ A) (h4:g ∉ B):st'.ce r=some (l,g,al):=by
 obtain ⟨k1,k2,k3⟩:=ce_three hc
 unfold St.ce
 rw [h.get r h1 h3,k1]
 simp only
 rw [h.live g h2 h4,k2]
 simp only [k3]
theorem recs_last {nt:Nat} {ops:Array Oper}:∀ (l:List Oper) (t:Tr AV) (st:St),(recs P S nt ops l t st=none→evOps P S nt ops l t st = .no)∧(∀ R,recs P S nt ops l t st=some R→R≠[]∧evOps P S nt ops l t st=lastOf R)
 | [],t,st=>⟨fun h=>(by cases h),fun R h=>by cases h; exact ⟨by simp,rfl⟩⟩
 | o :: l,t,st=>by
  have e1:evOps P S nt ops (o :: l) t st=onG P S nt o t st (evOps P S nt ops l) (guardOk ops t o):=rfl
  have e2:recs P S nt ops (o :: l) t st=(match guardOk ops t o with
   | some true=>recsV nt t st o.dst (evOp P S t st o) (recs P S nt ops l)
   | some false=>recsT ⟨t,st,.un,false⟩ (putT nt t o.dst .un) fun t=>recs P S nt ops l t st
   | none=>none):=rfl
  have rt:∀ (r:Rec) (q:Option (Tr AV)) (st':St),(recsT r q (fun t=>recs P S nt ops l t st')=none→onT q (fun t=>evOps P S nt ops l t st') = .no) ∧
    (∀ R,recsT r q (fun t=>recs P S nt ops l t st')=some R→R≠[]∧onT q (fun t=>evOps P S nt ops l t st')=lastOf R):=by
   intro r q st'
   cases q with
   | none=>exact ⟨fun _=>rfl,fun R h=>by cases h⟩
   | some t' =>
    rw [onT_some]
    obtain ⟨i1,i2⟩:=recs_last l t' st'
    show (onRec r (recs P S nt ops l t' st')=none→_)∧(∀ R,onRec r (recs P S nt ops l t' st')=some R→_)
    cases hr:recs P S nt ops l t' st' with
    | none=>exact ⟨fun _=>i1 hr,fun R h=>by cases h⟩
    | some R0 =>
     obtain ⟨j1,j2⟩:=i2 R0 hr
     refine ⟨fun h=>(by cases h),fun R h=>?_⟩
     cases h
     refine ⟨by simp,?_⟩
     rw [j2]
     cases R0 with
     | nil=>exact absurd rfl j1
     | cons a R1=>rfl
  rw [e1,e2]
  cases guardOk ops t o with
  | none=>exact ⟨fun _=>rfl,fun R h=>by cases h⟩
  | some b =>
   cases b with
   | false=>exact rt _ _ _
   | true =>
    show (recsV nt t st o.dst (evOp P S t st o) (recs P S nt ops l)=none→onV nt t o.dst (evOp P S t st o) (evOps P S nt ops l) = .no)∧_
    cases hv:evOp P S t st o with
    | none=>exact ⟨fun _=>rfl,fun R h=>by cases h⟩
    | some p =>
     obtain ⟨v,st'⟩:=p
     have:=rt ⟨t,st,v,true⟩ (putT nt t o.dst v) st'
     refine ⟨this.1,fun R h=>?_⟩
     refine ⟨(this.2 R h).1,?_⟩
     rw [← (this.2 R h).2]
     show onV nt t o.dst (evOp P S t st o) _=_
     rw [hv]; rfl
theorem drawC_eq {x:Ctx} {ops:Array Oper} {fl:List (Nat × Nat)} (hp:plan ops=some fl) (hc:∀ R,recs x.P x.S x.nt ops ops.toList t st=some R→fl.all (recheck x.P x.S ops R)=true) :
  drawC x ops t st=evOps x.P x.S x.nt ops ops.toList t st:=by
 unfold drawC
 rw [hp]
 show drawR x.P x.S ops fl (recs x.P x.S x.nt ops ops.toList t st)=_
 obtain ⟨h1,h2⟩:=recs_last (P:=x.P) (S:=x.S) (nt:=x.nt) (ops:=ops) ops.toList t st
 cases hr:recs x.P x.S x.nt ops ops.toList t st with
 | none=>rw [h1 hr]; rfl
 | some R =>
  rw [(h2 R hr).2]
  show cond (fl.all (recheck x.P x.S ops R)) (lastOf R) .no=_
  rw [hc R hr]
  rfl
theorem drawC_nil {x:Ctx} {ops:Array Oper} (hp:plan ops=some []):drawC x ops t st=evOps x.P x.S x.nt ops ops.toList t st:=drawC_eq hp fun _ _=>rfl
structure ByteTy (P:Program) (ty e:TypeId):Prop where
 und:P.underlying ty=some (.slice e)
 inf:hasInfo P e=true
 sz:szOf P e=1
 ag:isAg P e=false
 plain:plainArg P [ty,ty]=true
 fit:∀ n,n≤10000000→fits P e n=true
def Rd (st:St) (X:List Nat) (v:AV) (cells:List AV):Prop:=IsSl v cells∨(∃ r c,v = .sl r 0 0 1 c∧cells=[]) ∨
 ∃ r c l g al,v = .sl r 0 cells.length 1 c∧st.ce r=some (l,g,al)∧l.take cells.length=cells∧r < st.next∧g < st.next∧r ∉ X∧g ∉ X
section
variable {X : List Nat} {v a : AV} {cells cs : List AV} {ty e : TypeId}
theorem Rd.len (h:Rd st X v cells):lenOf v=some cells.length:=by
 rcases h with h | ⟨r,c,rfl,rfl⟩ | ⟨r,c,l,g,al,rfl,-⟩
 ·exact h.len
 ·rfl
 ·rfl
theorem Rd.text (h:Rd st X v cells):isText v=false:=by
 rcases h with h | ⟨r,c,rfl,rfl⟩ | ⟨r,c,l,g,al,rfl,-⟩
 ·exact h.text
 ·rfl
 ·rfl
theorem take_len {n:Nat} {l:List AV} (h:l.take cells.length=cells):cells.length≤l.length:=by
 have:=congrArg List.length h
 simp at this; omega
theorem takeN_take:∀ (n:Nat) (l:List AV),n≤l.length→takeN n l=some (l.take n)
 | 0,l,_=>by simp
 | n+1,[],h=>by simp at h
 | n+1,v :: l,h=>by simp only [takeN,takeN_take n l (by simpa using h),List.take_succ_cons]
theorem Rd.first (h:Rd st X v cells):firstCells st 1 cells.length v=some cells:=by
 rcases h with h | ⟨r,c,rfl,rfl⟩ | ⟨r,c,l,g,al,rfl,hc,ht,-⟩
 ·exact h.first st
 ·rfl
 ·show (@Bool.rec (fun _=>Option (List AV)) (rd st r 0 (cells.length * 1)) (some []) (Nat.beq cells.length 0))=_
  by_cases h0:cells.length=0
  ·rw [nbeq,decide_eq_true h0,List.eq_nil_of_length_eq_zero h0]
  ·rw [nbeq,decide_eq_false h0,rd_of hc,Nat.mul_one,cut_zero,takeN_take _ _ (take_len (n:=0) ht),ht]
theorem Rd.at (bt:ByteTy P ty e) (h:Rd st X v cells) {k:Nat} (hk:k < cells.length):∃ a,indexAddr P ty v (.i .i64 (k:Int))=some a∧loadAt P e st a=some cells[k]:=by
 rcases h with h | ⟨r,c,rfl,rfl⟩ | ⟨r,c,l,g,al,rfl,hc,ht,-⟩
 ·rcases h with ⟨rfl,rfl⟩ | rfl
  ·cases hk
  ·refine ⟨_,index_rs bt.und bt.inf bt.sz _ _ _ hk,?_⟩
   rw [Nat.mul_one,load_rp bt.inf bt.ag,List.drop_eq_getElem_cons hk]; rfl
 ·cases hk
 ·refine ⟨_,index_sl bt.und bt.inf bt.sz _ _ _ _ _ hk,?_⟩
  rw [Nat.zero_add,Nat.mul_one,load_p bt.inf bt.ag,rd_of hc,takeN_get l k (by have:=take_len (n:=0) ht; omega)]
  have:cells[k]=l[k]'(by have:=take_len (n:=0) ht; omega):=by
   have e:(l.take cells.length)[k]? = cells[k]?:=by rw [ht]
   rw [List.getElem?_take,if_pos hk] at e
   rw [List.getElem?_eq_getElem hk,List.getElem?_eq_getElem (by have:=take_len (n:=0) ht; omega)] at e
   exact (Option.some.inj e).symm
  rw [this]; rfl
theorem Rd.keep {A B:List Nat} {st':St} (h:Rd st X v cells) (k:Kp A B st st') (h1:∀ x,x ∈ A→x ∈ X) (h2:∀ x,x ∈ B→x ∈ X):Rd st' X v cells:=by
 rcases h with h | h | ⟨r,c,l,g,al,rfl,hc,ht,h3,h4,h5,h6⟩
 ·exact .inl h
 ·exact .inr (.inl h)
 ·exact .inr (.inr ⟨r,c,l,g,al,rfl,k.ce hc h3 h4 (fun hh=>h5 (h1 _ hh)) (fun hh=>h6 (h2 _ hh)),ht,Nat.lt_of_lt_of_le h3 k.next,Nat.lt_of_lt_of_le h4 k.next,h5,h6⟩)
theorem Rd.sub {X':List Nat} (h:Rd st X v cells) (hs:∀ x,x ∈ X'→x ∈ X):Rd st X' v cells:=by
 rcases h with h | h | ⟨r,c,l,g,al,rfl,hc,ht,h3,h4,h5,h6⟩
 ·exact .inl h
 ·exact .inr (.inl h)
 ·exact .inr (.inr ⟨r,c,l,g,al,rfl,hc,ht,h3,h4,fun hh=>h5 (hs _ hh),fun hh=>h6 (hs _ hh)⟩)
def Ow (st:St) (X:List Nat) (a:AV) (cs:List AV) (g:Option Nat):Prop:=(a = .sn∧cs=[]∧g=none)∨(∃ r,a = .sl r 0 0 1 (some 0)∧cs=[]∧g=none) ∨
 ∃ r f al,g=some f∧a = .sl r 0 cs.length 1 none∧st.ce r=some (cs,f,al)∧r < st.next∧f < st.next∧r ∉ X∧f ∉ X
theorem Ow.rd {g:Option Nat} (h:Ow st X a cs g):Rd st X a cs:=by
 rcases h with ⟨rfl,rfl,-⟩ | ⟨r,rfl,rfl,-⟩ | ⟨r,f,al,-,rfl,hc,h1,h2,h3,h4⟩
 ·exact .inl (.inl ⟨rfl,rfl⟩)
 ·exact .inr (.inl ⟨r,_,rfl,rfl⟩)
 ·exact .inr (.inr ⟨r,none,cs,f,al,rfl,hc,List.take_length,h1,h2,h3,h4⟩)
theorem Ow.keep {A B:List Nat} {st':St} {g:Option Nat} (h:Ow st X a cs g) (k:Kp A B st st') (h1:∀ x,x ∈ A→x ∈ X) (h2:∀ x,x ∈ B→x ∈ X∨g≠some x):Ow st' X a cs g:=by
 rcases h with h | h | ⟨r,f,al,rfl,rfl,hc,h3,h4,h5,h6⟩
 ·exact .inl h
 ·exact .inr (.inl h)
 ·exact .inr (.inr ⟨r,f,al,rfl,rfl,k.ce hc h3 h4 (fun hh=>h5 (h1 _ hh)) (fun hh=>(h2 _ hh).elim h6 fun hn=>hn rfl),Nat.lt_of_lt_of_le h3 k.next,Nat.lt_of_lt_of_le h4 k.next,h5,h6⟩)
end
end
end Go.Ev
