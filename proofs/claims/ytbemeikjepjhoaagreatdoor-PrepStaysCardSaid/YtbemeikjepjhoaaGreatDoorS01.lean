/-
  A deterministic evaluator of Go code over abstract values: definitions alone.
-/
import Derived.Orders
namespace Go.Ev
noncomputable section
inductive Tr (α:Type) where
 | lf
 | nd (v:Option α) (l r:Tr α)
def wayF (f:Nat):Nat→List Bool :=
 @Nat.rec (fun _=>Nat→List Bool) (fun _=>[])
  (fun _ go n=>@Bool.rec (fun _=>List Bool) (@Bool.rec (fun _=>List Bool) (false :: go (Nat.sub (Nat.div n 2) 1)) (true :: go (Nat.div n 2)) (Nat.beq (Nat.mod n 2) 1)) [] (Nat.beq n 0)) f
def way (n:Nat):List Bool:=wayF n n
def Tr.getW {α:Type} (p:List Bool):Tr α→Option α :=
 @List.rec Bool (fun _=>Tr α→Option α) (fun t=>@Tr.rec α (fun _=>Option α) none (fun v _ _ _ _=>v) t)
  (fun b _ go t=>@Tr.rec α (fun _=>Bool→(Tr α→Option α)→Option α) (fun _ _=>none) (fun _ l r _ _ b go=>go (@Bool.rec (fun _=>Tr α) r l b)) t b go) p
def Tr.setW {α:Type} (p:List Bool):Option α→Tr α→Tr α :=
 @List.rec Bool (fun _=>Option α→Tr α→Tr α)
  (fun v t=>@Tr.rec α (fun _=>Option α→Tr α) (fun v=>.nd v .lf .lf) (fun _ l r _ _ v=>.nd v l r) t v)
  (fun b _ go v t=>@Tr.rec α (fun _=>(Tr α→Tr α)→Bool→Tr α) (fun go b=>@Bool.rec (fun _=>Tr α) (.nd none .lf (go .lf)) (.nd none (go .lf) .lf) b)
   (fun o l r _ _ go b=>@Bool.rec (fun _=>Tr α) (.nd o l (go r)) (.nd o (go l) r) b) t (go v) b) p
def Tr.get {α:Type} (t:Tr α) (n:Nat):Option α:=t.getW (way n)
def Tr.set {α:Type} (t:Tr α) (n:Nat) (v:Option α):Tr α:=Tr.setW (way n) v t
inductive AV where
 | bad
 | un
 | b (x:Bool)
 | i (k:IntKind) (n:Int)
 | s (l:List Nat)
 | p (r o:Nat)
 | pn
 | gp (g:Nat)
 | rp (c:List AV)
 | sl (r o n z:Nat) (c:Option Nat)
 | sn
 | rs (c:List AV) (n z:Nat)
 | m (r:Nat)
 | mn
 | f (fn:Fn) (first captured:List AV)
 | fn0
 | ifc (t:Nat) (v:AV)
 | if0
 | ag (l:List AV)
 | tu (l:List AV)
 | c (r:Nat)
 | cn
 deriving Inhabited
def AV.cells (v:AV):Option (List AV) :=
 @AV.rec (fun _=>Option (List AV)) (fun _=>PUnit.{1}) none (some [.un]) (fun x=>some [.b x]) (fun k n=>some [.i k n]) (fun l=>some [.s l]) (fun r o=>some [.p r o]) (some [.pn]) (fun g=>some [.gp g])
  (fun c _=>some [.rp c]) (fun r o n z c=>some [.sl r o n z c]) (some [.sn]) (fun c n z _=>some [.rs c n z]) (fun r=>some [.m r]) (some [.mn]) (fun g x y _ _=>some [.f g x y]) (some [.fn0])
  (fun t u _=>some [.ifc t u]) (some [.if0]) (fun l _=>some l) (fun l _=>some [.tu l]) (fun r=>some [.c r]) (some [.cn]) ⟨⟩ (fun _ _ _ _=>⟨⟩) v
theorem AV.cells_eq (v:AV):v.cells=match v with | .bad=>none | .ag l=>some l | v=>some [v]:=by cases v <;> rfl
inductive Row where
 | ce (l:List AV) (g:Nat)
 | mp (es:List (AV × AV × Nat)) (clock:Nat)
 | si (s:List Nat) (pos:Nat)
 | mi (m:Option Nat) (since:Nat) (seen:List Nat) (stepped:Nat)
 | lp (t:Tr AV) (nt:Nat) (ps:List Tmp) (assign body:Code)
 | mu (es:List (AV × AV))
 | ch (cap:Nat) (buf:List AV)
 | ty (t r0:Nat) (x:Bool)
structure St where
 rows:Tr Row
 live:Tr (List Nat)
 next:Nat
def St.get (st:St) (r:Nat):Option Row:=st.rows.get r
def St.put (st:St) (r:Nat) (w:Row):St:=⟨st.rows.set r (some w),st.live,st.next⟩
def St.new (st:St) (w:Row):St:=⟨st.rows.set st.next (some w),st.live,st.next+1⟩
def St.drop (st:St) (r:Nat):St:=⟨st.rows.set r none,st.live,st.next⟩
def St.newCe (st:St) (l:List AV):St:=⟨st.rows.set st.next (some (.ce l st.next)),st.live.set st.next (some [st.next]),st.next+1⟩
def mem (r:Nat):List Nat→Bool
 | []=>false
 | x :: l=>(@Bool.rec (fun _=>_) (mem r l) true (Nat.beq x r))
def St.ce (st:St) (r:Nat):Option (List AV × Nat × List Nat) :=
 match st.get r with
 | some (.ce l g)=>match st.live.get g with
  | some al=>(@Bool.rec (fun _=>_) none (some (l,g,al)) (mem r al))
  | none=>none
 | _=>none
def tyR (st:St) (r:Nat):Option (Nat × Bool) :=
 match st.get (r+1) with
 | some (.ty t r0 x)=>@Bool.rec (fun _=>Option (Nat × Bool)) none (some (t,x)) (Nat.beq r0 r)
 | _=>none
def tyIs (st:St) (r t:Nat):Bool:=match tyR st r with
 | some (u,true)=>Nat.beq u t
 | _=>false
def notY:Fn→Bool
 | .yield _=>false
 | _=>true
def scal:Value→AV
 | .bool x=>.b x
 | .int k n=>.i k n
 | .string s=>.s (s.data.toList.map UInt8.toNat)
 | .pointer none=>.pn
 | .slice none a b=>@Bool.rec (fun _=>AV) .bad .sn (Nat.beq (a+b) 0)
 | .map none=>.mn
 | .chan none=>.cn
 | .nilFunc=>.fn0
 | .nilIface=>.if0
 | .func fn a b=>@Bool.rec (fun _=>AV) .bad (.f fn [] []) (Nat.beq (a.size+b.size) 0 && notY fn)
 | _=>.bad
def ofVal:Value→AV
 | .agg cs=>.ag (cs.toList.map scal)
 | .tuple cs=>.tu (cs.toList.map scal)
 | .iface t v=>.ifc t (scal v)
 | .func fn first captured=>@Bool.rec (fun _=>AV) .bad (.f fn (first.toList.map scal) (captured.toList.map scal)) (notY fn)
 | v=>scal v
def evO (t:Tr AV) (x:Operand):AV :=
 @Operand.rec (fun _=>Tr AV→AV) (fun x t=>match t.get x with | some v=>v | none=>.un) (fun v _=>ofVal v) (fun g _=>.gp g) (fun f _=>.f (.func f) [] []) x t
def ilt:Int→Int→Bool
 | .ofNat a,.ofNat b=>Nat.blt a b
 | .ofNat _,.negSucc _=>false
 | .negSucc _,.ofNat _=>true
 | .negSucc a,.negSucc b=>Nat.blt b a
def ieq:Int→Int→Bool
 | .ofNat a,.ofNat b=>Nat.beq a b
 | .negSucc a,.negSucc b=>Nat.beq a b
 | _,_=>false
def isI64:IntKind→Bool
 | .i64=>true
 | _=>false
def wr (k:IntKind) (n:Int):Int :=
 match n with
 | .ofNat m=>(@Bool.rec (fun _=>_) (k.wrap n) n (isI64 k && Nat.ble m 9223372036854775807))
 | .negSucc m=>(@Bool.rec (fun _=>_) (k.wrap n) n (isI64 k && Nat.ble m 9223372036854775807))
def keq (a b:IntKind):Bool:=decide (a=b)
def leq:List Nat→List Nat→Bool
 | [],[]=>true
 | a :: x,b :: y=>(@Bool.rec (fun _=>_) false (leq x y) (Nat.beq a b))
 | _,_=>false
def llt:List Nat→List Nat→Bool
 | _,[]=>false
 | [],_ :: _=>true
 | a :: x,b :: y=>(@Bool.rec (fun _=>_) ((@Bool.rec (fun _=>_) false (llt x y) (Nat.beq a b))) true (Nat.blt a b))
def intDivOk (b:Int) (v:AV):Option AV:=(@Bool.rec (fun _=>_) (some v) none (ieq b 0))
def intOp (op:BinOp) (k:IntKind) (a b:Int):Option AV :=
 @BinOp.rec (fun _=>IntKind→Int→Int→Option AV)
  (fun k a b=>some (.i k (wr k (a+b))))
  (fun k a b=>some (.i k (wr k (a - b))))
  (fun k a b=>some (.i k (wr k (a * b))))
  (fun k a b=>intDivOk b (.i k (wr k (a.tdiv b))))
  (fun k a b=>intDivOk b (.i k (a.tmod b)))
  (fun k a b=>some (.i k (k.wrap (BitVec.ofInt k.bits a &&& BitVec.ofInt k.bits b).toNat)))
  (fun k a b=>some (.i k (k.wrap (BitVec.ofInt k.bits a ||| BitVec.ofInt k.bits b).toNat)))
  (fun k a b=>some (.i k (k.wrap (BitVec.ofInt k.bits a ^^^ BitVec.ofInt k.bits b).toNat)))
  (fun _ _ _=>none) (fun _ _ _=>none)
  (fun k a b=>some (.i k (k.wrap (BitVec.ofInt k.bits a &&& ~~~BitVec.ofInt k.bits b).toNat)))
  (fun _ a b=>some (.b (ieq a b)))
  (fun _ a b=>some (.b (!ieq a b)))
  (fun _ a b=>some (.b (ilt a b)))
  (fun _ a b=>some (.b (!ilt b a)))
  (fun _ a b=>some (.b (ilt b a)))
  (fun _ a b=>some (.b (!ilt a b))) op k a b
def strOp (op:BinOp) (x y:List Nat):Option AV :=
 match op with
 | .add=>(@Bool.rec (fun _=>_) none (some (.s (x++y))) (Nat.ble (x.length+y.length) 9223372036854775807))
 | .eql=>some (.b (leq x y))
 | .neq=>some (.b (!leq x y))
 | .lss=>some (.b (llt x y))
 | .leq=>some (.b (llt x y || leq x y))
 | .gtr=>some (.b !(llt x y || leq x y))
 | .geq=>some (.b !llt x y)
 | _=>none
def eqS:AV→AV→Option Bool
 | .i k a,.i k' b=>@Bool.rec (fun _=>_) none (some (ieq a b)) (keq k k')
 | .s x,.s y=>some (leq x y)
 | _,_=>none
def AV.asI (v:AV):Option (IntKind × Int) :=
 @AV.rec (fun _=>_) (fun _=>PUnit.{1}) none none (fun _=>none) (fun k n=>some (k,n)) (fun _=>none) (fun _ _=>none) none (fun _=>none) (fun y0 _=>(fun _=>none) y0) (fun _ _ _ _ _=>none) none (fun y0 y1 y2 _=>(fun _ _ _=>none) y0 y1 y2) (fun _=>none) none (fun y0 y1 y2 _ _=>(fun _ _ _=>none) y0 y1 y2) none (fun y0 y1 _=>(fun _ _=>none) y0 y1) none (fun y0 _=>(fun _=>none) y0) (fun y0 _=>(fun _=>none) y0) (fun _=>none) none ⟨⟩ (fun _ _ _ _=>⟨⟩) v
theorem AV.asI_some {v:AV} {k:IntKind} {n:Int} (h:v.asI=some (k,n)):v = .i k n:=by cases v <;> first | (cases h; rfl) | cases h
def AV.asS (v:AV):Option (List Nat) :=
 @AV.rec (fun _=>_) (fun _=>PUnit.{1}) none none (fun _=>none) (fun _ _=>none) (fun l=>some l) (fun _ _=>none) none (fun _=>none) (fun y0 _=>(fun _=>none) y0) (fun _ _ _ _ _=>none) none (fun y0 y1 y2 _=>(fun _ _ _=>none) y0 y1 y2) (fun _=>none) none (fun y0 y1 y2 _ _=>(fun _ _ _=>none) y0 y1 y2) none (fun y0 y1 _=>(fun _ _=>none) y0 y1) none (fun y0 _=>(fun _=>none) y0) (fun y0 _=>(fun _=>none) y0) (fun _=>none) none ⟨⟩ (fun _ _ _ _=>⟨⟩) v
theorem AV.asS_some {v:AV} {l:List Nat} (h:v.asS=some l):v = .s l:=by cases v <;> first | (cases h; rfl) | cases h
def shlI (k:IntKind) (a b:Int):Option AV:=(@Bool.rec (fun _=>_) (some (.i k (k.wrap (a * 2 ^ (min b.toNat k.bits))))) none (ilt b 0))
def shrI (k:IntKind) (a b:Int):Option AV:=(@Bool.rec (fun _=>_) (some (.i k (a.fdiv (2 ^ (min b.toNat k.bits))))) none (ilt b 0))
def sameK (op:BinOp) (k:IntKind) (a:Int) (k':IntKind) (b:Int):Option AV:=(@Bool.rec (fun _=>_) none (intOp op k a b) (keq k k'))
def intAny (op:BinOp):IntKind→Int→IntKind→Int→Option AV→Option AV :=
 match op with
 | .shl=>fun k a _ b _=>shlI k a b
 | .shr=>fun k a _ b _=>shrI k a b
 | _=>fun _ _ _ _ r=>r
def binI (k:IntKind) (a:Int) (op:BinOp) (y:AV):Option AV :=
 match y.asI with
 | some (k',b)=>intAny op k a k' b (sameK op k a k' b)
 | none=>none
def binS (l:List Nat) (op:BinOp) (y:AV):Option AV :=
 match y.asS with
 | some l'=>strOp op l l'
 | none=>none
def AV.asB (v:AV):Option Bool :=
 @AV.rec (fun _=>Option Bool) (fun _=>PUnit.{1}) none none (fun x=>some x) (fun _ _=>none) (fun _=>none) (fun _ _=>none) none (fun _=>none) (fun _ _=>none) (fun _ _ _ _ _=>none) none (fun _ _ _ _=>none)
  (fun _=>none) none (fun _ _ _ _ _=>none) none (fun _ _ _=>none) none (fun _ _=>none) (fun _ _=>none) (fun _=>none) none ⟨⟩ (fun _ _ _ _=>⟨⟩) v
theorem AV.asB_some {v:AV} {x:Bool} (h:v.asB=some x):v = .b x:=by cases v <;> first | (cases h; rfl) | cases h
def unOp (op:UnOp) (x:AV):Option AV :=
 match op,x with
 | .neg,.i k n=>some (.i k (wr k (0 - n)))
 | .xor,.i k n=>some (.i k (k.wrap (BitVec.ofInt k.bits (if k.signed then -1 else k.max) ^^^ BitVec.ofInt k.bits n).toNat))
 | .not,.b v=>some (.b !v)
 | _,_=>none
section
variable (P : Program)
def szOf (t:TypeId):Nat:=match P.info? t with | some i=>i.size | none=>0
def byOf (t:TypeId):Nat:=match P.info? t with | some i=>i.bytes | none=>0
def isAg (t:TypeId):Bool:=match P.underlying t with | some (.struct _) | some (.array _ _)=>true | _=>false
def hasInfo (t:TypeId):Bool:=(P.info? t).isSome && (P.underlying t).isSome
def zeroOf (t:TypeId):Option AV:=match P.info? t with | some { zero:=some v,.. }=>some (ofVal v) | _=>none
def isStr (t:TypeId):Bool:=match P.underlying t with | some .string=>true | _=>false
def elOf (t:TypeId):Option TypeId:=match P.underlying t with | some (.slice e)=>some e | _=>none
def fieldOff (t:TypeId) (n:Nat):Option Nat:=match P.underlying t with
 | some (.struct fs)=>match fs[n]? with
  | some f=>@Bool.rec (fun _=>_) none (some f.offset) (hasInfo P f.type && Nat.blt 0 (szOf P f.type))
  | none=>none
 | _=>none
def fieldOf (t:TypeId) (n:Nat):Option Field:=match P.underlying t with | some (.struct fs)=>fs[n]? | _=>none
end
def isSc:AV→Bool
 | .bad | .un | .ag _ | .tu _=>false
 | _=>true
def allSc:List AV→Bool
 | []=>true
 | v :: l=>(@Bool.rec (fun _=>_) false (allSc l) (isSc v))
def takeN:Nat→List AV→Option (List AV)
 | 0,_=>some []
 | _+1,[]=>none
 | n+1,v :: l=>match takeN n l with
  | some r=>some (v :: r)
  | none=>none
def cut (l:List AV) (o n:Nat):Option (List AV) :=
 match o with
 | 0=>takeN n l
 | o+1=>match l with
  | []=>(@Bool.rec (fun _=>_) none (some []) (Nat.beq n 0))
  | _ :: l=>cut l o n
def over {α:Type}:List α→List α→List α
 | l,[]=>l
 | [],_=>[]
 | _ :: l,v :: vs=>v :: over l vs
def ovr {α:Type} (l:List α) (o:Nat) (vs:List α):List α :=
 match o with
 | 0=>over l vs
 | o+1=>match l with
  | []=>[]
  | x :: l=>x :: ovr l o vs
def rep {α:Type} (n:Nat) (l:List α):List α :=
 match n with
 | 0=>[]
 | n+1=>l++rep n l
def rd (st:St) (r o n:Nat):Option (List AV) :=
 match st.ce r with
 | some (l,_,_)=>cut l o n
 | none=>none
def wt (st:St) (r o:Nat) (vs:List AV):Option St :=
 match st.ce r with
 | some (l,g,_) =>
  (@Bool.rec (fun _=>_) none (some ⟨st.rows.set r (some (.ce (ovr l o vs) g)),st.live.set g (some [r]),st.next⟩) (Nat.ble (o+vs.length) l.length && allSc vs))
 | none=>none
def AV.asP (v:AV):Option (Nat × Nat) :=
 @AV.rec (fun _=>_) (fun _=>PUnit.{1}) none none (fun _=>none) (fun _ _=>none) (fun _=>none) (fun r o=>some (r,o)) none (fun _=>none) (fun y0 _=>(fun _=>none) y0) (fun _ _ _ _ _=>none) none (fun y0 y1 y2 _=>(fun _ _ _=>none) y0 y1 y2) (fun _=>none) none (fun y0 y1 y2 _ _=>(fun _ _ _=>none) y0 y1 y2) none (fun y0 y1 _=>(fun _ _=>none) y0 y1) none (fun y0 _=>(fun _=>none) y0) (fun y0 _=>(fun _=>none) y0) (fun _=>none) none ⟨⟩ (fun _ _ _ _=>⟨⟩) v
theorem AV.asP_some {v:AV} {r o:Nat} (h:v.asP=some (r,o)):v = .p r o:=by cases v <;> first | (cases h; rfl) | cases h
def AV.asRp (v:AV):Option (List AV) :=
 @AV.rec (fun _=>_) (fun _=>PUnit.{1}) none none (fun _=>none) (fun _ _=>none) (fun _=>none) (fun _ _=>none) none (fun _=>none) (fun y0 _=>(fun c=>some c) y0) (fun _ _ _ _ _=>none) none (fun y0 y1 y2 _=>(fun _ _ _=>none) y0 y1 y2) (fun _=>none) none (fun y0 y1 y2 _ _=>(fun _ _ _=>none) y0 y1 y2) none (fun y0 y1 _=>(fun _ _=>none) y0 y1) none (fun y0 _=>(fun _=>none) y0) (fun y0 _=>(fun _=>none) y0) (fun _=>none) none ⟨⟩ (fun _ _ _ _=>⟨⟩) v
theorem AV.asRp_some {v:AV} {c:List AV} (h:v.asRp=some c):v = .rp c:=by cases v <;> first | (cases h; rfl) | cases h
def agOf:Option (List AV)→Option AV
 | some l=>some (.ag l)
 | none=>none
def oneOf:Option (List AV)→Option AV
 | some [v]=>some v
 | _=>none
def loadAt (P:Program) (t:TypeId) (st:St) (a:AV):Option AV :=
 (@Bool.rec (fun _=>_) none (match a.asP with
  | some (r,o)=>(@Bool.rec (fun _=>_) (oneOf (rd st r o 1)) (agOf (rd st r o (szOf P t))) (isAg P t))
  | none=>match a.asRp with
   | some c=>(@Bool.rec (fun _=>_) (oneOf (cut c 0 1)) (agOf (cut c 0 (szOf P t))) (isAg P t))
   | none=>none) (hasInfo P t))
def storeC (P:Program) (t:TypeId) (st:St) (r o:Nat):Option (List AV)→Option St
 | some l=>(@Bool.rec (fun _=>_) none (wt st r o l) (hasInfo P t && Nat.beq l.length (szOf P t)))
 | none=>none
def storeAt (P:Program) (t:TypeId) (st:St) (a v:AV):Option St :=
 match a.asP with
 | some (r,o)=>storeC P t st r o v.cells
 | none=>none
def fill (place:Nat→Option (Nat × Nat)) (cells:List AV):List (Nat × AV)→Option (List AV)
 | []=>some cells
 | (i,v) :: rest =>
  match place i,v.cells with
  | some (off,size),some l=>(@Bool.rec (fun _=>_) none (fill place (ovr cells off l) rest) (Nat.beq l.length size && Nat.ble (off+size) cells.length))
  | _,_=>none
def lenOf (v:AV):Option Nat :=
 @AV.rec (fun _=>_) (fun _=>PUnit.{1}) none none (fun _=>none) (fun _ _=>none) (fun l=>some l.length) (fun _ _=>none) none (fun _=>none) (fun y0 _=>(fun _=>none) y0) (fun _ _ n _ _=>some n) (some 0) (fun y0 y1 y2 _=>(fun _ n _=>some n) y0 y1 y2) (fun _=>none) none (fun y0 y1 y2 _ _=>(fun _ _ _=>none) y0 y1 y2) none (fun y0 y1 _=>(fun _ _=>none) y0 y1) none (fun y0 _=>(fun _=>none) y0) (fun y0 _=>(fun _=>none) y0) (fun _=>none) none ⟨⟩ (fun _ _ _ _=>⟨⟩) v
def firstCells (st:St) (z n:Nat):AV→Option (List AV)
 | .sl r o _ _ _=>(@Bool.rec (fun _=>_) (rd st r o (n * z)) (some []) (Nat.beq n 0))
 | .sn=>(@Bool.rec (fun _=>_) none (some []) (Nat.beq n 0))
 | .rs c _ _=>cut c 0 (n * z)
 | .s l=>(@Bool.rec (fun _=>_) none (some ((l.take n).map fun b:Nat=>AV.i .u8 (Int.ofNat b))) (Nat.beq z 1))
 | _=>none
def grow (st:St) (z n:Nat) (cs:List AV):AV × St :=
 (.sl st.next 0 n z none,st.newCe cs)
def St.kill (st:St) (r:Nat):St :=
 match st.ce r with
 | some (_,g,_)=>⟨st.rows,st.live.set g (some []),st.next⟩
 | none=>st
def from_ (r:Nat):List Nat→List Nat
 | []=>[]
 | x :: l=>(@Bool.rec (fun _=>_) (from_ r l) (x :: l) (Nat.beq x r))
def growRow (st:St) (r o len z n:Nat) (new:List AV):Option (AV × St) :=
 match st.ce r with
 | some (l,g,al) =>
  match cut l o (len * z) with
  | some old =>
   some (.sl st.next 0 n z none,⟨st.rows.set st.next (some (.ce (old++new) g)),
    st.live.set g (some ((@Bool.rec (fun _=>_) [st.next] (st.next :: from_ r al) (Nat.beq (o+len * z) l.length)))),st.next+1⟩)
  | none=>none
 | none=>none
def roomed (st:St) (r o z:Nat):Nat :=
 match st.ce r with
 | some (l,_,_)=>(l.length - o) / z
 | none=>0
def growAny (st:St) (r o len z n:Nat) (new:List AV) (fit:Bool):Option (AV × St) :=
 @Bool.rec (fun _=>Option (AV × St)) (@Bool.rec (fun _=>Option (AV × St)) none (growRow st r o len z n new) fit)
  (match wt st r (o+len * z) new with | some st=>some (.sl r o n z none,st) | none=>none) (Nat.ble n (roomed st r o z))
def zeroC (P:Program) (e:TypeId):Option (List AV) :=
 match zeroOf P e with
 | some z=>match z.cells with
  | some l=>(@Bool.rec (fun _=>_) none (some l) (hasInfo P e && Nat.beq l.length (szOf P e)))
  | none=>none
 | none=>none
def fits (P:Program) (e need:Nat):Bool :=
 (zeroC P e).isSome && Nat.ble 1 (byOf P e) && Nat.ble ((2 * need+2000) * byOf P e) 281474976710656
def plainArg (P:Program):List TypeId→Bool
 | [_]=>true
 | _ :: x :: _=>match P.underlying x with
  | some (.int _) | none=>false
  | some _=>true
 | []=>false
def append (P:Program) (st:St) (ts:List TypeId) (s x:AV):Option (AV × St) :=
 match ts with
 | []=>none
 | t :: _ =>
 match elOf P t,lenOf x with
 | some e,some n =>
  match firstCells st (szOf P e) n x with
  | none=>none
  | some new =>
   (@Bool.rec (fun _=>_) none (
    match s with
    | .sn=>(@Bool.rec (fun _=>_) ((@Bool.rec (fun _=>_) none (some (grow st (szOf P e) n new)) (fits P e n))) (some (.sn,st)) (Nat.beq n 0))
    | .sl r o len z c =>
     (@Bool.rec (fun _=>_) none (
      (@Bool.rec (fun _=>_) (
      match c with
      | some c =>
       (@Bool.rec (fun _=>_) ((@Bool.rec (fun _=>_) none (match firstCells st z len (.sl r o len z (some c)) with | some old=>some (grow st z (len+n) (old++new)) | none=>none) (fits P e (len+n)))) (match wt st r (o+len * z) new with | some st=>some (.sl r o (len+n) z (some c),st) | none=>none) (Nat.ble (len+n) c))
      | none=>growAny st r o len z (len+n) new (fits P e (len+n))) (some (.sl r o len z c,st)) (Nat.beq n 0))) (Nat.beq (szOf P e) z))
    | .rs c len z=>(@Bool.rec (fun _=>_) none (some (.rs c len z,st)) (Nat.beq n 0))
    | _=>none) (plainArg P ts && hasInfo P e && allSc new))
 | _,_=>none
def intNat:Option (IntKind × Int)→Option Nat
 | some (_,.ofNat n)=>some n
 | _=>none
def natOf (v:AV):Option Nat:=intNat v.asI
theorem natOf_some {v:AV} {n:Nat} (h:natOf v=some n):∃ k,v = .i k (.ofNat n):=by
 cases v <;> try (cases h)
 rename_i k m
 cases m with
 | ofNat m=>cases h; exact ⟨k,rfl⟩
 | negSucc m=>cases h
def arrOf (P:Program) (t:TypeId):Option (Nat × Nat) :=
 match P.underlying t with
 | some (.array n e)=>(@Bool.rec (fun _=>_) none (some (n,szOf P e)) (hasInfo P e))
 | _=>none
def bnd (d:Nat):Option AV→Option Nat
 | none=>some d
 | some v=>natOf v
def bnds (len cap:Nat) (lo hi mx:Option AV):Option (Nat × Nat × Nat) :=
 match bnd 0 lo,bnd len hi,bnd cap mx with
 | some a,some b,some m=>(@Bool.rec (fun _=>_) none (some (a,b,m)) (Nat.ble a b && Nat.ble b m && Nat.ble m cap && (mx.isNone || hi.isSome)))
 | _,_,_=>none
def slTy (P:Program) (t z:Nat):Bool :=
 match elOf P t with
 | some e=>hasInfo P e && Nat.beq (szOf P e) z
 | none=>false
def slice (P:Program) (t:TypeId) (x:AV) (lo hi mx:Option AV):Option AV :=
 match x with
 | .s l =>
  match mx,bnds l.length l.length lo hi none with
  | none,some (a,b,_)=>(@Bool.rec (fun _=>_) none (some (.s ((l.drop a).take (b - a)))) (isStr P t))
  | _,_=>none
 | .sn =>
  match elOf P t,bnds 0 0 lo hi mx with
  | some e,some _=>(@Bool.rec (fun _=>_) none (some .sn) (hasInfo P e))
  | _,_=>none
 | .sl r o n z (some c) =>
  match bnds n c lo hi mx with
  | some (a,b,m)=>(@Bool.rec (fun _=>_) none (some (.sl r (o+a * z) (b - a) z (some (m - a)))) (slTy P t z))
  | none=>none
 | .sl r o n z none =>
  match bnds n n lo hi mx with
  | some (a,b,m)=>(@Bool.rec (fun _=>_) none (some (.sl r (o+a * z) (b - a) z (@Bool.rec (fun _=>_) (some (m - a)) none mx.isNone))) (slTy P t z))
  | none=>none
 | .rs c n z =>
  match bnds n n lo hi mx with
  | some (a,b,m)=>(@Bool.rec (fun _=>_) none
    (@Bool.rec (fun _=>_) (@Bool.rec (fun _=>_) none (some (.sl 0 0 0 z (some 0))) (Nat.beq m a)) (some (.rs (c.drop (a * z)) (b - a) z)) mx.isNone) (slTy P t z))
  | none=>none
 | .p r o =>
  match arrOf P t with
  | some (n,z)=>match bnds n n lo hi mx with
   | some (a,b,m)=>some (.sl r (o+a * z) (b - a) z (some (m - a)))
   | none=>none
  | none=>none
 | _=>none
def sliceRoom (P:Program) (st:St) (t:TypeId) (lo hi mx:Option AV):AV→Option AV
 | .sl r o n z none =>
  match st.ce r with
  | some (l,_,_)=>match bnds n ((l.length - o) / z) lo hi mx with
   | some (a,b,m)=>(@Bool.rec (fun _=>_) none (some (.sl r (o+a * z) (b - a) z (@Bool.rec (fun _=>_) (some (m - a)) none mx.isNone))) (slTy P t z))
   | none=>none
  | none=>none
 | _=>none
def sliceR (P:Program) (st:St) (t:TypeId) (x:AV) (lo hi mx:Option AV):Option AV :=
 match slice P t x lo hi mx with
 | some v=>some v
 | none=>sliceRoom P st t lo hi mx x
def indexAddr (P:Program) (t:TypeId) (x ix:AV):Option AV :=
 match natOf ix with
 | none=>none
 | some k =>
  @AV.rec (fun _=>Nat→Program→TypeId→Option AV) (fun _=>PUnit.{1}) (fun _ _ _=>none) (fun _ _ _=>none) (fun _ _ _ _=>none) (fun _ _ _ _ _=>none) (fun _ _ _ _=>none) (fun r o k P t=>match arrOf P t with | some (n,z)=>(@Bool.rec (fun _=>_) none (some (.p r (o+k * z))) (Nat.blt k n)) | none=>none) (fun _ _ _=>none) (fun _ _ _ _=>none) (fun y0 _=>(fun c k P t=>match arrOf P t with | some (n,z)=>(@Bool.rec (fun _=>_) none (some (.rp (c.drop (k * z)))) (Nat.blt k n)) | none=>none) y0) (fun r o n z _ k P t=>match elOf P t with | some e=>(@Bool.rec (fun _=>_) none (some (.p r (o+k * z))) (Nat.blt k n && hasInfo P e && Nat.beq (szOf P e) z)) | none=>none) (fun _ _ _=>none) (fun y0 y1 y2 _=>(fun c n z k P t=>match elOf P t with | some e=>(@Bool.rec (fun _=>_) none (some (.rp (c.drop (k * z)))) (Nat.blt k n && hasInfo P e && Nat.beq (szOf P e) z)) | none=>none) y0 y1 y2) (fun _ _ _ _=>none) (fun _ _ _=>none) (fun y0 y1 y2 _ _=>(fun _ _ _ _ _ _=>none) y0 y1 y2) (fun _ _ _=>none) (fun y0 y1 _=>(fun _ _ _ _ _=>none) y0 y1) (fun _ _ _=>none) (fun y0 _=>(fun _ _ _ _=>none) y0) (fun y0 _=>(fun _ _ _ _=>none) y0) (fun _ _ _ _=>none) (fun _ _ _=>none) ⟨⟩ (fun _ _ _ _=>⟨⟩) x k P t
def part (P:Program) (t:TypeId) (cs:List AV) (off:Nat):Option AV :=
 (@Bool.rec (fun _=>_) none ((@Bool.rec (fun _=>_) (oneOf (cut cs off 1)) (agOf (cut cs off (szOf P t))) (isAg P t))) (hasInfo P t))
def eqB (x y:AV):Option Bool:=match x.asB,y.asB with | some a,some b=>some (a == b) | _,_=>none
def eqI (x y:AV):Option Bool:=match x.asI,y.asI with | some (k,a),some (k',b)=>(@Bool.rec (fun _=>_) none (some (ieq a b)) (keq k k')) | _,_=>none
def eqStr (x y:AV):Option Bool:=match x.asS,y.asS with | some a,some b=>some (leq a b) | _,_=>none
def AV.nilP (v:AV):Option Bool :=
 @AV.rec (fun _=>Option Bool) (fun _=>PUnit.{1}) none none (fun _=>none) (fun _ _=>none) (fun _=>none) (fun _ _=>(some false)) (some true) (fun _=>(some false)) (fun _ _=>(some false)) (fun _ _ _ _ _=>none) none (fun _ _ _ _=>none) (fun _=>none) none (fun _ _ _ _ _=>none) none (fun _ _ _=>none) none (fun _ _=>none) (fun _ _=>none) (fun _=>none) none ⟨⟩ (fun _ _ _ _=>⟨⟩) v
def AV.nilS (v:AV):Option Bool :=
 @AV.rec (fun _=>Option Bool) (fun _=>PUnit.{1}) none none (fun _=>none) (fun _ _=>none) (fun _=>none) (fun _ _=>none) none (fun _=>none) (fun _ _=>none) (fun _ _ _ _ _=>(some false)) (some true) (fun _ _ _ _=>(some false)) (fun _=>none) none (fun _ _ _ _ _=>none) none (fun _ _ _=>none) none (fun _ _=>none) (fun _ _=>none) (fun _=>none) none ⟨⟩ (fun _ _ _ _=>⟨⟩) v
def AV.nilM (v:AV):Option Bool :=
 @AV.rec (fun _=>Option Bool) (fun _=>PUnit.{1}) none none (fun _=>none) (fun _ _=>none) (fun _=>none) (fun _ _=>none) none (fun _=>none) (fun _ _=>none) (fun _ _ _ _ _=>none) none (fun _ _ _ _=>none) (fun _=>(some false)) (some true) (fun _ _ _ _ _=>none) none (fun _ _ _=>none) none (fun _ _=>none) (fun _ _=>none) (fun _=>none) none ⟨⟩ (fun _ _ _ _=>⟨⟩) v
def AV.nilF (v:AV):Option Bool :=
 @AV.rec (fun _=>Option Bool) (fun _=>PUnit.{1}) none none (fun _=>none) (fun _ _=>none) (fun _=>none) (fun _ _=>none) none (fun _=>none) (fun _ _=>none) (fun _ _ _ _ _=>none) none (fun _ _ _ _=>none) (fun _=>none) none (fun _ _ _ _ _=>(some false)) (some true) (fun _ _ _=>none) none (fun _ _=>none) (fun _ _=>none) (fun _=>none) none ⟨⟩ (fun _ _ _ _=>⟨⟩) v
def AV.nilI (v:AV):Option Bool :=
 @AV.rec (fun _=>Option Bool) (fun _=>PUnit.{1}) none none (fun _=>none) (fun _ _=>none) (fun _=>none) (fun _ _=>none) none (fun _=>none) (fun _ _=>none) (fun _ _ _ _ _=>none) none (fun _ _ _ _=>none) (fun _=>none) none (fun _ _ _ _ _=>none) none (fun _ _ _=>(some false)) (some true) (fun _ _=>none) (fun _ _=>none) (fun _=>none) none ⟨⟩ (fun _ _ _ _=>⟨⟩) v
def AV.nilC:AV→Option Bool
 | .c _=>some false
 | .cn=>some true
 | _=>none
def eqNil:Option Bool→Option Bool→Option Bool
 | some true,some b=>some b
 | some false,some true=>some false
 | _,_=>none
def eqP2 (P:Program) (e:TypeId) (x y:AV):Option Bool :=
 match x.asP,y.asP with
 | some (r,o),some (r',o')=>(@Bool.rec (fun _=>_) none (some (Nat.beq o o')) (Nat.beq r r' && hasInfo P e && Nat.blt 0 (szOf P e)))
 | _,_=>none
def orElse (a b:Option Bool):Option Bool :=
 match a with
 | some v=>some v
 | none=>b
def eqT1 (P:Program) (t:TypeId) (x y:AV):Option Bool :=
 match P.underlying t with
 | some .bool=>eqB x y
 | some (.int _)=>eqI x y
 | some .string=>eqStr x y
 | some (.pointer e)=>orElse (eqNil x.nilP y.nilP) (eqP2 P e x y)
 | some (.slice _)=>eqNil x.nilS y.nilS
 | some (.map _ _)=>eqNil x.nilM y.nilM
 | some (.func _ _ _)=>eqNil x.nilF y.nilF
 | some (.interface _)=>eqNil x.nilI y.nilI
 | _=>none
def eqFs (P:Program) (xs ys:List AV):List Field→Option Bool
 | []=>some true
 | f :: fs=>(@Bool.rec (fun _=>_) (match part P f.type xs f.offset,part P f.type ys f.offset with
  | some a,some b=>match eqT1 P f.type a b with
   | some true=>eqFs P xs ys fs
   | r=>r
  | _,_=>none) none (f.name == "_"))
def eqAg (P:Program) (t:TypeId) (xs ys:List AV):Option Bool :=
 match P.underlying t with
 | some (.struct fs)=>(@Bool.rec (fun _=>_) none (eqFs P xs ys fs.toList) (!P.stoodInHeld t && !P.eqGuardType P.depth t))
 | _=>none
def isChan (P:Program) (t:TypeId):Bool:=match P.underlying t with | some (.chan _ _)=>true | _=>false
def eqC (P:Program) (t:TypeId) (x y:AV):Option Bool:=@Bool.rec (fun _=>Option Bool) none (eqNil x.nilC y.nilC) (isChan P t)
def eqV (P:Program) (t:TypeId) (c:Bool):AV→AV→Option Bool
 | .ag xs,.ag ys=>eqAg P t xs ys
 | .if0,.if0=>(@Bool.rec (fun _=>_) none (eqT1 P t .if0 .if0) c)
 | x,y=>orElse (eqT1 P t x y) (eqC P t x y)
def eqOp (P:Program) (t:TypeId) (c:Bool) (op:BinOp) (x y:AV):Option AV :=
 match op with
 | .eql=>match eqV P t c x y with | some v=>some (.b v) | none=>none
 | .neq=>match eqV P t c x y with | some v=>some (.b !v) | none=>none
 | _=>none
def binOp (P:Program) (t:TypeId) (c:Bool) (op:BinOp) (x y:AV):Option AV :=
 match x.asI with
 | some (k,a)=>binI k a op y
 | none=>match x.asS with
  | some l=>binS l op y
  | none=>eqOp P t c op x y
def byteAt (k:Nat) (l:List Nat):Option AV:=match l.drop k with | c :: _=>some (.i .u8 (Int.ofNat c)) | []=>none
def partAt (P:Program) (t:TypeId) (k:Nat) (cs:List AV):Option AV :=
 match P.underlying t with
 | some (.array n e)=>(@Bool.rec (fun _=>_) none (part P e cs (k * szOf P e)) (Nat.blt k n))
 | _=>none
def index (P:Program) (t:TypeId) (x ix:AV):Option AV :=
 match natOf ix with
 | none=>none
 | some k=>match x.asS with
  | some l=>(@Bool.rec (fun _=>_) none (byteAt k l) (isStr P t))
  | none=>match x with
   | .ag cs=>partAt P t k cs
   | _=>none
def find (k:AV):List (AV × AV × Nat)→Nat→Option (Option (Nat × AV))
 | [],_=>some none
 | (x,v,_) :: es,n =>
  match eqS k x with
  | some true=>some (some (n,v))
  | some false=>find k es (n+1)
  | none=>none
def findU (k:AV):List (AV × AV)→Option (Option AV)
 | []=>some none
 | (x,v) :: es =>
  match eqS k x with
  | some true=>match findU k es with | some none=>some (some v) | _=>none
  | some false=>findU k es
  | none=>none
def keyKind (P:Program) (t:TypeId):Bool :=
 match P.underlying t with
 | some (.map k _)=>match P.underlying k with
  | some (.int _) | some .string=>true
  | _=>false
 | _=>false
def keyFits (P:Program) (t:TypeId) (k:AV):Bool :=
 match P.underlying t with
 | some (.map kt _)=>match P.underlying kt,k with
  | some (.int _),.i _ _=>true
  | some .string,.s _=>true
  | _,_=>false
 | _=>false
def lookup (P:Program) (t:TypeId) (st:St) (x k:AV) (ok:Bool):Option AV :=
 match P.underlying t with
 | some (.map _ e) =>
  match zeroOf P e with
  | none=>none
  | some z =>
   let back (v:AV) (there:Bool):AV:=cond ok (.tu [v,.b there]) v
   (@Bool.rec (fun _=>_) none (
    match x with
    | .mn=>some (back z false)
    | .m r=>match st.get r with
     | some (.mp es _)=>match find k es 0 with
      | some (some (_,v))=>some (back v true)
      | some none=>some (back z false)
      | none=>none
     | some (.mu es)=>match findU k es with
      | some (some v)=>some (back v true)
      | some none=>some (back z false)
      | none=>none
     | _=>none
    | _=>none) (keyFits P t k))
 | _=>none
def setVal:List (AV × AV × Nat)→Nat→AV→List (AV × AV × Nat)
 | [],_,_=>[]
 | (k,_,b) :: es,0,v=>(k,v,b) :: es
 | e :: es,n+1,v=>e :: setVal es n v
def dropAt:List (AV × AV × Nat)→Nat→List (AV × AV × Nat)
 | [],_=>[]
 | _ :: es,0=>es
 | e :: es,n+1=>e :: dropAt es n
def mapUpdate (P:Program) (t:TypeId) (st:St) (x k v:AV):Option St :=
 (@Bool.rec (fun _=>_) none (
  match x with
  | .m r=>match st.get r with
   | some (.mp es clock)=>match find k es 0 with
    | some (some (i,_))=>some (st.put r (.mp (setVal es i v) clock))
    | some none=>some (st.put r (.mp (es++[(k,v,clock)]) (clock+1)))
    | none=>none
   | _=>none
  | _=>none) (keyFits P t k))
def delete (P:Program) (t:TypeId) (st:St) (x k:AV):Option St :=
 (@Bool.rec (fun _=>_) none (
  match x with
  | .mn=>some st
  | .m r=>match st.get r with
   | some (.mp es clock)=>match find k es 0 with
    | some (some (i,_))=>some (st.put r (.mp (dropAt es i) clock))
    | some none=>some st
    | none=>none
   | _=>none
  | _=>none) (keyFits P t k))
inductive Out where
 | nx (t:Tr AV) (st:St)
 | ex (id:Nat) (t:Tr AV) (st:St)
 | rt (t:Tr AV) (st:St)
 | no
end
end Go.Ev
