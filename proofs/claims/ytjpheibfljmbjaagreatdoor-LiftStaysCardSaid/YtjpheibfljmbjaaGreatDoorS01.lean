/- A part of the proof. -/
import Derived.Orders
open Nat renaming beq->Q0, blt->Q1, ble->Q2, testBit->Q3, lor->Q6, le_refl->Q7
open Int renaming ofNat->Q4
noncomputable section
namespace Go.Ev
variable {n o : Nat}{vs x : List Value}{α β : Type}
inductive Tr (α:Type) where
 |lf
 |nd (v:Option α) (l r:Tr α)
def ql(f:Nat):Nat->List Bool :=
 @Nat.rec (fun _=>Nat->List Bool) (fun _=>[])
  (fun _ go n=>@Bool.rec (fun _=>List Bool) (@Bool.rec (fun _=>List Bool) (false::go (Nat.sub (Nat.div n 2) 1)) (true::go (Nat.div n 2)) (Q0 (Nat.mod n 2) 1)) [] (Q0 n 0)) f
def Bd(n:Nat):List Bool:=ql n n
def Tr.po(p:List Bool):Tr α->Option α :=
 @List.rec Bool (fun _=>Tr α->Option α) (fun t=>@Tr.rec α (fun _=>Option α) none (fun v _ _ _ _=>v) t)
  (fun b _ go t=>@Tr.rec α (fun _=>Bool->(Tr α->Option α)->Option α) (fun _ _=>none) (fun _ l r _ _ b go=>go (@Bool.rec (fun _=>Tr α) r l b)) t b go) p
def Tr.gr(p:List Bool):Option α->Tr α->Tr α :=
 @List.rec Bool (fun _=>Option α->Tr α->Tr α)
  (fun v t=>@Tr.rec α (fun _=>Option α->Tr α) (fun v=>.nd v .lf .lf) (fun _ l r _ _ v=>.nd v l r) t v)
  (fun b _ go v t=>@Tr.rec α (fun _=>(Tr α->Tr α)->Bool->Tr α) (fun go b=>@Bool.rec (fun _=>Tr α) (.nd none .lf (go .lf)) (.nd none (go .lf) .lf) b)
   (fun o l r _ _ go b=>@Bool.rec (fun _=>Tr α) (.nd o l (go r)) (.nd o (go l) r) b) t (go v) b) p
def Tr.get(t:Tr α)(n:Nat):Option α:=t.po (Bd n)
def Tr.set(t:Tr α)(n:Nat)(v:Option α):Tr α:=Tr.gr (Bd n) v t
inductive AV where
 |bad
 |un
 |b (x:Bool)
 |i (k:IntKind) (n:Int)
 |s (l:List Nat)
 |p (r o:Nat)
 |pn
 |gp (g:Nat)
 |rp (c:List AV)
 |sl (r o n z:Nat) (c:Option Nat)
 |sn
 |rs (c:List AV) (n z:Nat)
 |m (r:Nat)
 |mn
 |f (fn:Fn) (first captured:List AV)
 |fn0
 |ifc (t:Nat) (v:AV)
 |if0
 |ag (l:List AV)
 |tu (l:List AV)
 |c (r:Nat)
 |cn
 deriving Inhabited
def AV.cells(v:AV):Option (List AV):=
 @AV.rec (fun _=>Option (List AV)) (fun _=>PUnit.{1}) none (some [.un]) (fun x=>some [.b x]) (fun k n=>some [.i k n]) (fun l=>some [.s l]) (fun r o=>some [.p r o]) (some [.pn]) (fun g=>some [.gp g])
  (fun c _=>some [.rp c]) (fun r o n z c=>some [.sl r o n z c]) (some [.sn]) (fun c n z _=>some [.rs c n z]) (fun r=>some [.m r]) (some [.mn]) (fun g x y _ _=>some [.f g x y]) (some [.fn0])
  (fun t u _=>some [.ifc t u]) (some [.if0]) (fun l _=>some l) (fun l _=>some [.tu l]) (fun r=>some [.c r]) (some [.cn]) ⟨⟩ (fun _ _ _ _=>⟨⟩) v
theorem AV.oX(v:AV):v.cells=match v with|.bad=>none|.ag l=>some l|v=>some [v]:=by cases v<;>rfl
inductive Row where
 |ce (l:List AV) (g:Nat)
 |mp (es:List (AV× AV× Nat)) (clock:Nat)
 |si (s:List Nat) (pos:Nat)
 |mi (m:Option Nat) (since:Nat) (seen:List Nat) (stepped:Nat)
 |lp (t:Tr AV) (nt:Nat) (ps:List Tmp) (assign body:Code)
 |mu (es:List (AV× AV))
 |ch (cap:Nat) (buf:List AV)
 |ty (t r0:Nat) (x:Bool)
structure St where
 rows:Tr Row
 live:Tr (List Nat)
 next:Nat
def St.get(st:St)(r:Nat):Option Row:=st.rows.get r
def St.put(st:St)(r:Nat)(w:Row):St:=⟨st.rows.set r (some w),st.live,st.next⟩
def St.new(st:St)(w:Row):St:=⟨st.rows.set st.next (some w),st.live,st.next+1⟩
def St.drop(st:St)(r:Nat):St:=⟨st.rows.set r none,st.live,st.next⟩
def St.aw(st:St)(l:List AV):St:=⟨st.rows.set st.next (some (.ce l st.next)),st.live.set st.next (some [st.next]),st.next+1⟩
def mem(r:Nat):List Nat->Bool
 |[]=>false
 |x::l=>(@Bool.rec (fun _=>_) (mem r l) true (Q0 x r))
def St.ce(st:St)(r:Nat):Option (List AV× Nat× List Nat):=
 match st.get r with
 |some (.ce l g)=>match st.live.get g with
  |some al=>(@Bool.rec (fun _=>_) none (some (l,g,al)) (mem r al))
  |none=>none
 |_=>none
def Zo(st:St)(r:Nat):Option (Nat× Bool):=
 match st.get (r+1) with
 |some (.ty t r0 x)=>@Bool.rec (fun _=>Option (Nat× Bool)) none (some (t,x)) (Q0 r0 r)
 |_=>none
def afC(st:St)(r t:Nat):Bool:=match Zo st r with
 |some (u,true)=>Q0 u t
 |_=>false
def ou:Fn->Bool
 |.yield _=>false
 |_=>true
def qU:Value->AV
 |.bool x=>.b x
 |.int k n=>.i k n
 |.string s=>.s (s.data.toList.map UInt8.toNat)
 |.pointer none=>.pn
 |.slice none a b=>@Bool.rec (fun _=>AV) .bad .sn (Q0 (a+b) 0)
 |.map none=>.mn
 |.chan none=>.cn
 |.nilFunc=>.fn0
 |.nilIface=>.if0
 |.func fn a b=>@Bool.rec (fun _=>AV) .bad (.f fn [] []) (Q0 (a.size+b.size) 0&&ou fn)
 |_=>.bad
def Cq:Value->AV
 |.agg cs=>.ag (cs.toList.map qU)
 |.tuple cs=>.tu (cs.toList.map qU)
 |.iface t v=>.ifc t (qU v)
 |.func fn first captured=>@Bool.rec (fun _=>AV) .bad (.f fn (first.toList.map qU) (captured.toList.map qU)) (ou fn)
 |v=>qU v
def ai(t:Tr AV)(x:Operand):AV :=
 @Operand.rec (fun _=>Tr AV->AV) (fun x t=>match t.get x with|some v=>v|none=>.un) (fun v _=>Cq v) (fun g _=>.gp g) (fun f _=>.f (.func f) [] []) x t
def oe:Int->Int->Bool
 |.ofNat a,.ofNat b=>Q1 a b
 |.ofNat _,.negSucc _=>false
 |.negSucc _,.ofNat _=>true
 |.negSucc a,.negSucc b=>Q1 b a
def pV:Int->Int->Bool
 |.ofNat a,.ofNat b=>Q0 a b
 |.negSucc a,.negSucc b=>Q0 a b
 |_,_=>false
def vh:IntKind->Bool
 |.i64=>true
 |_=>false
def wr(k:IntKind)(n:Int):Int :=
 match n with
 |.ofNat m=>(@Bool.rec (fun _=>_) (k.wrap n) n (vh k&&Q2 m 9223372036854775807))
 |.negSucc m=>(@Bool.rec (fun _=>_) (k.wrap n) n (vh k&&Q2 m 9223372036854775807))
def ud(a b:IntKind):Bool:=decide (a=b)
def leq:List Nat->List Nat->Bool
 |[],[]=>true
 |a::x,b::y=>(@Bool.rec (fun _=>_) false (leq x y) (Q0 a b))
 |_,_=>false
def fX:List Nat->List Nat->Bool
 |_,[]=>false
 |[],_::_=>true
 |a::x,b::y=>(@Bool.rec (fun _=>_) ((@Bool.rec (fun _=>_) false (fX x y) (Q0 a b))) true (Q1 a b))
def xR(b:Int)(v:AV):Option AV:=(@Bool.rec (fun _=>_) (some v) none (pV b 0))
def IS(op:BinOp)(k:IntKind)(a b:Int):Option AV :=
 @BinOp.rec (fun _=>IntKind->Int->Int->Option AV)
  (fun k a b=>some (.i k (wr k (a+b))))
  (fun k a b=>some (.i k (wr k (a-b))))
  (fun k a b=>some (.i k (wr k (a*b))))
  (fun k a b=>xR b (.i k (wr k (a.tdiv b))))
  (fun k a b=>xR b (.i k (a.tmod b)))
  (fun k a b=>some (.i k (k.wrap (BitVec.ofInt k.bits a &&& BitVec.ofInt k.bits b).toNat)))
  (fun k a b=>some (.i k (k.wrap (BitVec.ofInt k.bits a ||| BitVec.ofInt k.bits b).toNat)))
  (fun k a b=>some (.i k (k.wrap (BitVec.ofInt k.bits a ^^^ BitVec.ofInt k.bits b).toNat)))
  (fun _ _ _=>none) (fun _ _ _=>none)
  (fun k a b=>some (.i k (k.wrap (BitVec.ofInt k.bits a &&& ~~~BitVec.ofInt k.bits b).toNat)))
  (fun _ a b=>some (.b (pV a b)))
  (fun _ a b=>some (.b (!pV a b)))
  (fun _ a b=>some (.b (oe a b)))
  (fun _ a b=>some (.b (!oe b a)))
  (fun _ a b=>some (.b (oe b a)))
  (fun _ a b=>some (.b (!oe a b))) op k a b
def Oz(op:BinOp)(x y:List Nat):Option AV :=
 match op with
 |.add=>(@Bool.rec (fun _=>_) none (some (.s (x++y))) (Q2 (x.length+y.length) 9223372036854775807))
 |.eql=>some (.b (leq x y))
 |.neq=>some (.b (!leq x y))
 |.lss=>some (.b (fX x y))
 |.leq=>some (.b (fX x y||leq x y))
 |.gtr=>some (.b !(fX x y||leq x y))
 |.geq=>some (.b !fX x y)
 |_=>none
def ju:AV->AV->Option Bool
 |.i k a,.i k' b=>@Bool.rec (fun _=>_) none (some (pV a b)) (ud k k')
 |.s x,.s y=>some (leq x y)
 |_,_=>none
def AV.pW(v:AV):Option (IntKind× Int):=
 @AV.rec (fun _=>_) (fun _=>PUnit.{1}) none none (fun _=>none) (fun k n=>some (k,n)) (fun _=>none) (fun _ _=>none) none (fun _=>none) (fun _ _=>none) (fun _ _ _ _ _=>none) none (fun _ _ _ _=>none) (fun _=>none) none (fun _ _ _ _ _=>none) none (fun _ _ _=>none) none (fun _ _=>none) (fun _ _=>none) (fun _=>none) none ⟨⟩ (fun _ _ _ _=>⟨⟩) v
theorem AV.CN{v:AV}{k:IntKind}{n:Int}(h:v.pW=some (k,n)):v=.i k n:=by cases v<;>first|(cases h;rfl)|cases h
def AV.oJ(v:AV):Option (List Nat):=
 @AV.rec (fun _=>_) (fun _=>PUnit.{1}) none none (fun _=>none) (fun _ _=>none) (fun l=>some l) (fun _ _=>none) none (fun _=>none) (fun _ _=>none) (fun _ _ _ _ _=>none) none (fun _ _ _ _=>none) (fun _=>none) none (fun _ _ _ _ _=>none) none (fun _ _ _=>none) none (fun _ _=>none) (fun _ _=>none) (fun _=>none) none ⟨⟩ (fun _ _ _ _=>⟨⟩) v
theorem AV.AP{v:AV}{l:List Nat}(h:v.oJ=some l):v=.s l:=by cases v<;>first|(cases h;rfl)|cases h
def Kl(k:IntKind)(a b:Int):Option AV:=(@Bool.rec (fun _=>_) (some (.i k (k.wrap (a*2 ^ (min b.toNat k.bits))))) none (oe b 0))
def Ls(k:IntKind)(a b:Int):Option AV:=(@Bool.rec (fun _=>_) (some (.i k (a.fdiv (2 ^ (min b.toNat k.bits))))) none (oe b 0))
def Bk(op:BinOp)(k:IntKind)(a:Int)(k':IntKind)(b:Int):Option AV:=(@Bool.rec (fun _=>_) none (IS op k a b) (ud k k'))
def zS(op:BinOp):IntKind->Int->IntKind->Int->Option AV->Option AV :=
 match op with
 |.shl=>fun k a _ b _=>Kl k a b
 |.shr=>fun k a _ b _=>Ls k a b
 |_=>fun _ _ _ _ r=>r
def ID(k:IntKind)(a:Int)(op:BinOp)(y:AV):Option AV :=
 match y.pW with
 |some (k',b)=>zS op k a k' b (Bk op k a k' b)
 |none=>none
def Qs(l:List Nat)(op:BinOp)(y:AV):Option AV :=
 match y.oJ with
 |some l'=>Oz op l l'
 |none=>none
def AV.gV(v:AV):Option Bool :=
 @AV.rec (fun _=>Option Bool) (fun _=>PUnit.{1}) none none (fun x=>some x) (fun _ _=>none) (fun _=>none) (fun _ _=>none) none (fun _=>none) (fun _ _=>none) (fun _ _ _ _ _=>none) none (fun _ _ _ _=>none)
  (fun _=>none) none (fun _ _ _ _ _=>none) none (fun _ _ _=>none) none (fun _ _=>none) (fun _ _=>none) (fun _=>none) none ⟨⟩ (fun _ _ _ _=>⟨⟩) v
theorem AV.zi{v:AV}{x:Bool}(h:v.gV=some x):v=.b x:=by cases v<;>first|(cases h;rfl)|cases h
def unOp(op:UnOp)(x:AV):Option AV :=
 match op,x with
 |.neg,.i k n=>some (.i k (wr k (0-n)))
 |.xor,.i k n=>some (.i k (k.wrap (BitVec.ofInt k.bits (if k.signed then -1 else k.max) ^^^ BitVec.ofInt k.bits n).toNat))
 |.not,.b v=>some (.b !v)
 |_,_=>none
section
variable(P : Program)
def aD(t:TypeId):Nat:=match P.info? t with|some i=>i.size|none=>0
def nR(t:TypeId):Nat:=match P.info? t with|some i=>i.bytes|none=>0
def et(t:TypeId):Bool:=match P.underlying t with|some (.struct _)|some (.array _ _)=>true|_=>false
def bp(t:TypeId):Bool:=(P.info? t).isSome&&(P.underlying t).isSome
def zeroOf(t:TypeId):Option AV:=match P.info? t with|some { zero:=some v,.. }=>some (Cq v)|_=>none
def isStr(t:TypeId):Bool:=match P.underlying t with|some .string=>true|_=>false
def ez(t:TypeId):Option TypeId:=match P.underlying t with|some (.slice e)=>some e|_=>none
def ey(t:TypeId)(n:Nat):Option Nat:=match P.underlying t with
 |some (.struct fs)=>match fs[n]? with
  |some f=>@Bool.rec (fun _=>_) none (some f.offset) (bp P f.type&&Q1 0 (aD P f.type))
  |none=>none
 |_=>none
end
def bS:AV->Bool
 |.bad|.un|.ag _|.tu _=>false
 |_=>true
def bq:List AV->Bool
 |[]=>true
 |v::l=>(@Bool.rec (fun _=>_) false (bq l) (bS v))
def takeN:Nat->List AV->Option (List AV)
 |0,_=>some []
 |_+1,[]=>none
 |n+1,v::l=>match takeN n l with
  |some r=>some (v::r)
  |none=>none
def cut(l:List AV)(o n:Nat):Option (List AV):=
 match o with
 |0=>takeN n l
 |o+1=>match l with
  |[]=>(@Bool.rec (fun _=>_) none (some []) (Q0 n 0))
  |_::l=>cut l o n
def over{α:Type}:List α->List α->List α
 |l,[]=>l
 |[],_=>[]
 |_::l,v::vs=>v::over l vs
def bO{α:Type}(l:List α)(o:Nat)(vs:List α):List α :=
 match o with
 |0=>over l vs
 |o+1=>match l with
  |[]=>[]
  |x::l=>x::bO l o vs
def rep{α:Type}(n:Nat)(l:List α):List α :=
 match n with
 |0=>[]
 |n+1=>l++rep n l
def rd(st:St)(r o n:Nat):Option (List AV):=
 match st.ce r with
 |some (l,_,_)=>cut l o n
 |none=>none
def wt(st:St)(r o:Nat)(vs:List AV):Option St :=
 match st.ce r with
 |some (l,g,_) =>
  (@Bool.rec (fun _=>_) none (some ⟨st.rows.set r (some (.ce (bO l o vs) g)),st.live.set g (some [r]),st.next⟩) (Q2 (o+vs.length) l.length&&bq vs))
 |none=>none
def AV.bW(v:AV):Option (Nat× Nat):=
 @AV.rec (fun _=>_) (fun _=>PUnit.{1}) none none (fun _=>none) (fun _ _=>none) (fun _=>none) (fun r o=>some (r,o)) none (fun _=>none) (fun _ _=>none) (fun _ _ _ _ _=>none) none (fun _ _ _ _=>none) (fun _=>none) none (fun _ _ _ _ _=>none) none (fun _ _ _=>none) none (fun _ _=>none) (fun _ _=>none) (fun _=>none) none ⟨⟩ (fun _ _ _ _=>⟨⟩) v
theorem AV.wV{v:AV}{r:Nat}(h:v.bW=some (r,o)):v=.p r o:=by cases v<;>first|(cases h;rfl)|cases h
def AV.yQ(v:AV):Option (List AV):=
 @AV.rec (fun _=>_) (fun _=>PUnit.{1}) none none (fun _=>none) (fun _ _=>none) (fun _=>none) (fun _ _=>none) none (fun _=>none) (fun c _=>some c) (fun _ _ _ _ _=>none) none (fun _ _ _ _=>none) (fun _=>none) none (fun _ _ _ _ _=>none) none (fun _ _ _=>none) none (fun _ _=>none) (fun _ _=>none) (fun _=>none) none ⟨⟩ (fun _ _ _ _=>⟨⟩) v
theorem AV.Oy{v:AV}{c:List AV}(h:v.yQ=some c):v=.rp c:=by cases v<;>first|(cases h;rfl)|cases h
def xM:Option (List AV)->Option AV
 |some l=>some (.ag l)
 |none=>none
def oneOf:Option (List AV)->Option AV
 |some [v]=>some v
 |_=>none
def loadAt(P:Program)(t:TypeId)(st:St)(a:AV):Option AV :=
 (@Bool.rec (fun _=>_) none (match a.bW with
  |some (r,o)=>(@Bool.rec (fun _=>_) (oneOf (rd st r o 1)) (xM (rd st r o (aD P t))) (et P t))
  |none=>match a.yQ with
   |some c=>(@Bool.rec (fun _=>_) (oneOf (cut c 0 1)) (xM (cut c 0 (aD P t))) (et P t))
   |none=>none) (bp P t))
def wg(P:Program)(t:TypeId)(st:St)(r o:Nat):Option (List AV)->Option St
 |some l=>(@Bool.rec (fun _=>_) none (wt st r o l) (bp P t&&Q0 l.length (aD P t)))
 |none=>none
def storeAt(P:Program)(t:TypeId)(st:St)(a v:AV):Option St :=
 match a.bW with
 |some (r,o)=>wg P t st r o v.cells
 |none=>none
def fill(place:Nat->Option (Nat× Nat))(cells:List AV):List (Nat× AV)->Option (List AV)
 |[]=>some cells
 |(i,v)::rest =>
  match place i,v.cells with
  |some (off,size),some l=>(@Bool.rec (fun _=>_) none (fill place (bO cells off l) rest) (Q0 l.length size&&Q2 (off+size) cells.length))
  |_,_=>none
def lenOf(v:AV):Option Nat :=
 @AV.rec (fun _=>_) (fun _=>PUnit.{1}) none none (fun _=>none) (fun _ _=>none) (fun l=>some l.length) (fun _ _=>none) none (fun _=>none) (fun _ _=>none) (fun _ _ n _ _=>some n) (some 0) (fun _ n _ _=>some n) (fun _=>none) none (fun _ _ _ _ _=>none) none (fun _ _ _=>none) none (fun _ _=>none) (fun _ _=>none) (fun _=>none) none ⟨⟩ (fun _ _ _ _=>⟨⟩) v
def firstCells(st:St)(z n:Nat):AV->Option (List AV)
 |.sl r o _ _ _=>(@Bool.rec (fun _=>_) (rd st r o (n*z)) (some []) (Q0 n 0))
 |.sn=>(@Bool.rec (fun _=>_) none (some []) (Q0 n 0))
 |.rs c _ _=>cut c 0 (n*z)
 |.s l=>(@Bool.rec (fun _=>_) none (some ((l.take n).map fun b:Nat=>AV.i .u8 (Q4 b))) (Q0 z 1))
 |_=>none
def grow(st:St)(z n:Nat)(cs:List AV):AV× St :=
 (.sl st.next 0 n z none,st.aw cs)
def from_(r:Nat):List Nat->List Nat
 |[]=>[]
 |x::l=>(@Bool.rec (fun _=>_) (from_ r l) (x::l) (Q0 x r))
def yW(st:St)(r o len z n:Nat)(new:List AV):Option (AV× St):=
 match st.ce r with
 |some (l,g,al) =>
  match cut l o (len*z) with
  |some old =>
   some (.sl st.next 0 n z none,⟨st.rows.set st.next (some (.ce (old++new) g)),
    st.live.set g (some ((@Bool.rec (fun _=>_) [st.next] (st.next::from_ r al) (Q0 (o+len*z) l.length)))),st.next+1⟩)
  |none=>none
 |none=>none
def qR(st:St)(r o z:Nat):Nat :=
 match st.ce r with
 |some (l,_,_)=>(l.length-o) / z
 |none=>0
def Ej(st:St)(r o len z n:Nat)(new:List AV)(fit:Bool):Option (AV× St):=
 @Bool.rec (fun _=>Option (AV× St)) (@Bool.rec (fun _=>Option (AV× St)) none (yW st r o len z n new) fit)
  (match wt st r (o+len*z) new with|some st=>some (.sl r o n z none,st)|none=>none) (Q2 n (qR st r o z))
def bm(P:Program)(e:TypeId):Option (List AV):=
 match zeroOf P e with
 |some z=>match z.cells with
  |some l=>(@Bool.rec (fun _=>_) none (some l) (bp P e&&Q0 l.length (aD P e)))
  |none=>none
 |none=>none
def fits(P:Program)(e need:Nat):Bool :=
 (bm P e).isSome&&Q2 1 (nR P e)&&Q2 ((2*need+2000)*nR P e) 281474976710656
def pJ(P:Program):List TypeId->Bool
 |[_]=>true
 |_::x::_=>match P.underlying x with
  |some (.int _)|none=>false
  |some _=>true
 |[]=>false
def append(P:Program)(st:St)(ts:List TypeId)(s x:AV):Option (AV× St):=
 match ts with
 |[]=>none
 |t::_ =>
 match ez P t,lenOf x with
 |some e,some n =>
  match firstCells st (aD P e) n x with
  |none=>none
  |some new =>
   (@Bool.rec (fun _=>_) none (
    match s with
    |.sn=>(@Bool.rec (fun _=>_) ((@Bool.rec (fun _=>_) none (some (grow st (aD P e) n new)) (fits P e n))) (some (.sn,st)) (Q0 n 0))
    |.sl r o len z c =>
     (@Bool.rec (fun _=>_) none (
      (@Bool.rec (fun _=>_) (
      match c with
      |some c =>
       (@Bool.rec (fun _=>_) ((@Bool.rec (fun _=>_) none (match firstCells st z len (.sl r o len z (some c)) with|some old=>some (grow st z (len+n) (old++new))|none=>none) (fits P e (len+n)))) (match wt st r (o+len*z) new with|some st=>some (.sl r o (len+n) z (some c),st)|none=>none) (Q2 (len+n) c))
      |none=>Ej st r o len z (len+n) new (fits P e (len+n))) (some (.sl r o len z c,st)) (Q0 n 0))) (Q0 (aD P e) z))
    |.rs c len z=>(@Bool.rec (fun _=>_) none (some (.rs c len z,st)) (Q0 n 0))
    |_=>none) (pJ P ts&&bp P e&&bq new))
 |_,_=>none
def TD:Option (IntKind× Int)->Option Nat
 |some (_,.ofNat n)=>some n
 |_=>none
def gk(v:AV):Option Nat:=TD v.pW
theorem Iy{v:AV}(h:gk v=some n):∃ k,v=.i k (.ofNat n):=by
 cases v<;>try (cases h)
 rename_i k m;cases m with
 |ofNat m=>cases h;grind
 |negSucc m=>cases h
def vD(P:Program)(t:TypeId):Option (Nat× Nat):=
 match P.underlying t with
 |some (.array n e)=>(@Bool.rec (fun _=>_) none (some (n,aD P e)) (bp P e))
 |_=>none
def bM(d:Nat):Option AV->Option Nat
 |none=>some d
 |some v=>gk v
def gy(len cap:Nat)(lo hi mx:Option AV):Option (Nat× Nat× Nat):=
 match bM 0 lo,bM len hi,bM cap mx with
 |some a,some b,some m=>(@Bool.rec (fun _=>_) none (some (a,b,m)) (Q2 a b&&Q2 b m&&Q2 m cap&&(mx.isNone||hi.isSome)))
 |_,_,_=>none
def pY(P:Program)(t z:Nat):Bool :=
 match ez P t with
 |some e=>bp P e&&Q0 (aD P e) z
 |none=>false
def slice(P:Program)(t:TypeId)(x:AV)(lo hi mx:Option AV):Option AV :=
 match x with
 |.s l =>
  match mx,gy l.length l.length lo hi none with
  |none,some (a,b,_)=>(@Bool.rec (fun _=>_) none (some (.s ((l.drop a).take (b-a)))) (isStr P t))
  |_,_=>none
 |.sn =>
  match ez P t,gy 0 0 lo hi mx with
  |some e,some _=>(@Bool.rec (fun _=>_) none (some .sn) (bp P e))
  |_,_=>none
 |.sl r o n z (some c) =>
  match gy n c lo hi mx with
  |some (a,b,m)=>(@Bool.rec (fun _=>_) none (some (.sl r (o+a*z) (b-a) z (some (m-a)))) (pY P t z))
  |none=>none
 |.sl r o n z none =>
  match gy n n lo hi mx with
  |some (a,b,m)=>(@Bool.rec (fun _=>_) none (some (.sl r (o+a*z) (b-a) z (@Bool.rec (fun _=>_) (some (m-a)) none mx.isNone))) (pY P t z))
  |none=>none
 |.rs c n z =>
  match gy n n lo hi mx with
  | some (a,b,m)=>(@Bool.rec (fun _=>_) none
    (@Bool.rec (fun _=>_) (@Bool.rec (fun _=>_) none (some (.sl 0 0 0 z (some 0))) (Q0 m a)) (some (.rs (c.drop (a*z)) (b-a) z)) mx.isNone) (pY P t z))
  |none=>none
 |.p r o =>
  match vD P t with
  |some (n,z)=>match gy n n lo hi mx with
   |some (a,b,m)=>some (.sl r (o+a*z) (b-a) z (some (m-a)))
   |none=>none
  |none=>none
 |_=>none
def Ce(P:Program)(st:St)(t:TypeId)(lo hi mx:Option AV):AV->Option AV
 |.sl r o n z none =>
  match st.ce r with
  |some (l,_,_)=>match gy n ((l.length-o) / z) lo hi mx with
   |some (a,b,m)=>(@Bool.rec (fun _=>_) none (some (.sl r (o+a*z) (b-a) z (@Bool.rec (fun _=>_) (some (m-a)) none mx.isNone))) (pY P t z))
   |none=>none
  |none=>none
 |_=>none
def ia(P:Program)(st:St)(t:TypeId)(x:AV)(lo hi mx:Option AV):Option AV :=
 match slice P t x lo hi mx with
 |some v=>some v
 |none=>Ce P st t lo hi mx x
def indexAddr(P:Program)(t:TypeId)(x ix:AV):Option AV :=
 match gk ix with
 |none=>none
 |some k =>
  @AV.rec (fun _=>Nat->Program->TypeId->Option AV) (fun _=>PUnit.{1}) (fun _ _ _=>none) (fun _ _ _=>none) (fun _ _ _ _=>none) (fun _ _ _ _ _=>none) (fun _ _ _ _=>none) (fun r o k P t=>match vD P t with|some (n,z)=>(@Bool.rec (fun _=>_) none (some (.p r (o+k*z))) (Q1 k n))|none=>none) (fun _ _ _=>none) (fun _ _ _ _=>none) (fun y0 _=>(fun c k P t=>match vD P t with|some (n,z)=>(@Bool.rec (fun _=>_) none (some (.rp (c.drop (k*z)))) (Q1 k n))|none=>none) y0) (fun r o n z _ k P t=>match ez P t with|some e=>(@Bool.rec (fun _=>_) none (some (.p r (o+k*z))) (Q1 k n&&bp P e&&Q0 (aD P e) z))|none=>none) (fun _ _ _=>none) (fun y0 y1 y2 _=>(fun c n z k P t=>match ez P t with|some e=>(@Bool.rec (fun _=>_) none (some (.rp (c.drop (k*z)))) (Q1 k n&&bp P e&&Q0 (aD P e) z))|none=>none) y0 y1 y2) (fun _ _ _ _=>none) (fun _ _ _=>none) (fun _ _ _ _ _ _ _ _=>none) (fun _ _ _=>none) (fun _ _ _ _ _ _=>none) (fun _ _ _=>none) (fun _ _ _ _ _=>none) (fun _ _ _ _ _=>none) (fun _ _ _ _=>none) (fun _ _ _=>none) ⟨⟩ (fun _ _ _ _=>⟨⟩) x k P t
def part(P:Program)(t:TypeId)(cs:List AV)(off:Nat):Option AV :=
 (@Bool.rec (fun _=>_) none ((@Bool.rec (fun _=>_) (oneOf (cut cs off 1)) (xM (cut cs off (aD P t))) (et P t))) (bp P t))
def HQ(x y:AV):Option Bool:=match x.gV,y.gV with|some a,some b=>some (a==b)|_,_=>none
def HY(x y:AV):Option Bool:=match x.pW,y.pW with|some (k,a),some (k',b)=>(@Bool.rec (fun _=>_) none (some (pV a b)) (ud k k'))|_,_=>none
def eqStr(x y:AV):Option Bool:=match x.oJ,y.oJ with|some a,some b=>some (leq a b)|_,_=>none
def AV.uZ(v:AV):Option Bool :=
 @AV.rec (fun _=>Option Bool) (fun _=>PUnit.{1}) none none (fun _=>none) (fun _ _=>none) (fun _=>none) (fun _ _=>(some false)) (some true) (fun _=>(some false)) (fun _ _=>(some false)) (fun _ _ _ _ _=>none) none (fun _ _ _ _=>none) (fun _=>none) none (fun _ _ _ _ _=>none) none (fun _ _ _=>none) none (fun _ _=>none) (fun _ _=>none) (fun _=>none) none ⟨⟩ (fun _ _ _ _=>⟨⟩) v
def AV.yY(v:AV):Option Bool :=
 @AV.rec (fun _=>Option Bool) (fun _=>PUnit.{1}) none none (fun _=>none) (fun _ _=>none) (fun _=>none) (fun _ _=>none) none (fun _=>none) (fun _ _=>none) (fun _ _ _ _ _=>(some false)) (some true) (fun _ _ _ _=>(some false)) (fun _=>none) none (fun _ _ _ _ _=>none) none (fun _ _ _=>none) none (fun _ _=>none) (fun _ _=>none) (fun _=>none) none ⟨⟩ (fun _ _ _ _=>⟨⟩) v
def AV.xE(v:AV):Option Bool :=
 @AV.rec (fun _=>Option Bool) (fun _=>PUnit.{1}) none none (fun _=>none) (fun _ _=>none) (fun _=>none) (fun _ _=>none) none (fun _=>none) (fun _ _=>none) (fun _ _ _ _ _=>none) none (fun _ _ _ _=>none) (fun _=>(some false)) (some true) (fun _ _ _ _ _=>none) none (fun _ _ _=>none) none (fun _ _=>none) (fun _ _=>none) (fun _=>none) none ⟨⟩ (fun _ _ _ _=>⟨⟩) v
def AV.EZ(v:AV):Option Bool :=
 @AV.rec (fun _=>Option Bool) (fun _=>PUnit.{1}) none none (fun _=>none) (fun _ _=>none) (fun _=>none) (fun _ _=>none) none (fun _=>none) (fun _ _=>none) (fun _ _ _ _ _=>none) none (fun _ _ _ _=>none) (fun _=>none) none (fun _ _ _ _ _=>(some false)) (some true) (fun _ _ _=>none) none (fun _ _=>none) (fun _ _=>none) (fun _=>none) none ⟨⟩ (fun _ _ _ _=>⟨⟩) v
def AV.CL(v:AV):Option Bool :=
 @AV.rec (fun _=>Option Bool) (fun _=>PUnit.{1}) none none (fun _=>none) (fun _ _=>none) (fun _=>none) (fun _ _=>none) none (fun _=>none) (fun _ _=>none) (fun _ _ _ _ _=>none) none (fun _ _ _ _=>none) (fun _=>none) none (fun _ _ _ _ _=>none) none (fun _ _ _=>(some false)) (some true) (fun _ _=>none) (fun _ _=>none) (fun _=>none) none ⟨⟩ (fun _ _ _ _=>⟨⟩) v
def AV.Ht:AV->Option Bool
 |.c _=>some false
 |.cn=>some true
 |_=>none
def mQ:Option Bool->Option Bool->Option Bool
 |some true,some b=>some b
 |some false,some true=>some false
 |_,_=>none
def IL(P:Program)(e:TypeId)(x y:AV):Option Bool :=
 match x.bW,y.bW with
 |some (r,o),some (r',o')=>(@Bool.rec (fun _=>_) none (some (Q0 o o')) (Q0 r r'&&bp P e&&Q1 0 (aD P e)))
 |_,_=>none
def orElse(a b:Option Bool):Option Bool :=
 match a with
 |some v=>some v
 |none=>b
def ik(P:Program)(t:TypeId)(x y:AV):Option Bool :=
 match P.underlying t with
 |some .bool=>HQ x y
 |some (.int _)=>HY x y
 |some .string=>eqStr x y
 |some (.pointer e)=>orElse (mQ x.uZ y.uZ) (IL P e x y)
 |some (.slice _)=>mQ x.yY y.yY
 |some (.map _ _)=>mQ x.xE y.xE
 |some (.func _ _ _)=>mQ x.EZ y.EZ
 |some (.interface _)=>mQ x.CL y.CL
 |_=>none
def tk(P:Program)(xs ys:List AV):List Field->Option Bool
 |[]=>some true
 |f::fs=>(@Bool.rec (fun _=>_) (match part P f.type xs f.offset,part P f.type ys f.offset with
  |some a,some b=>match ik P f.type a b with
   |some true=>tk P xs ys fs
   |r=>r
  |_,_=>none) none (f.name == "_"))
def DT(P:Program)(t:TypeId)(xs ys:List AV):Option Bool :=
 match P.underlying t with
 |some (.struct fs)=>(@Bool.rec (fun _=>_) none (tk P xs ys fs.toList) (!P.stoodInHeld t&&!P.eqGuardType P.depth t))
 |_=>none
def isChan(P:Program)(t:TypeId):Bool:=match P.underlying t with|some (.chan _ _)=>true|_=>false
def Ez(P:Program)(t:TypeId)(x y:AV):Option Bool:=@Bool.rec (fun _=>Option Bool) none (mQ x.Ht y.Ht) (isChan P t)
def mG(P:Program)(t:TypeId)(c:Bool):AV->AV->Option Bool
 |.ag xs,.ag ys=>DT P t xs ys
 |.if0,.if0=>(@Bool.rec (fun _=>_) none (ik P t .if0 .if0) c)
 |x,y=>orElse (ik P t x y) (Ez P t x y)
def mb(P:Program)(t:TypeId)(c:Bool)(op:BinOp)(x y:AV):Option AV :=
 match op with
 |.eql=>match mG P t c x y with|some v=>some (.b v)|none=>none
 |.neq=>match mG P t c x y with|some v=>some (.b !v)|none=>none
 |_=>none
def binOp(P:Program)(t:TypeId)(c:Bool)(op:BinOp)(x y:AV):Option AV :=
 match x.pW with
 |some (k,a)=>ID k a op y
 |none=>match x.oJ with
  |some l=>Qs l op y
  |none=>mb P t c op x y
def CI(k:Nat)(l:List Nat):Option AV:=match l.drop k with|c::_=>some (.i .u8 (Q4 c))|[]=>none
def partAt(P:Program)(t:TypeId)(k:Nat)(cs:List AV):Option AV :=
 match P.underlying t with
 |some (.array n e)=>(@Bool.rec (fun _=>_) none (part P e cs (k*aD P e)) (Q1 k n))
 |_=>none
def index(P:Program)(t:TypeId)(x ix:AV):Option AV :=
 match gk ix with
 |none=>none
 |some k=>match x.oJ with
  |some l=>(@Bool.rec (fun _=>_) none (CI k l) (isStr P t))
  |none=>match x with
   |.ag cs=>partAt P t k cs
   |_=>none
def find(k:AV):List (AV× AV× Nat)->Nat->Option (Option (Nat× AV))
 |[],_=>some none
 |(x,v,_)::es,n =>
  match ju k x with
  |some true=>some (some (n,v))
  |some false=>find k es (n+1)
  |none=>none
def mq(k:AV):List (AV× AV)->Option (Option AV)
 |[]=>some none
 |(x,v)::es =>
  match ju k x with
  |some true=>match mq k es with|some none=>some (some v)|_=>none
  |some false=>mq k es
  |none=>none
def ac6(P:Program)(t:TypeId):Bool :=
 match P.underlying t with
 |some (.map k _)=>match P.underlying k with
  |some (.int _)|some .string=>true
  |_=>false
 |_=>false
def kV(P:Program)(t:TypeId)(k:AV):Bool :=
 match P.underlying t with
 |some (.map kt _)=>match P.underlying kt,k with
  |some (.int _),.i _ _=>true
  |some .string,.s _=>true
  |_,_=>false
 |_=>false
def lookup(P:Program)(t:TypeId)(st:St)(x k:AV)(ok:Bool):Option AV :=
 match P.underlying t with
 |some (.map _ e) =>
  match zeroOf P e with
  |none=>none
  |some z =>
   let back (v:AV) (there:Bool):AV:=cond ok (.tu [v,.b there]) v
   (@Bool.rec (fun _=>_) none (
    match x with
    |.mn=>some (back z false)
    |.m r=>match st.get r with
     |some (.mp es _)=>match find k es 0 with
      |some (some (_,v))=>some (back v true)
      |some none=>some (back z false)
      |none=>none
     |some (.mu es)=>match mq k es with
      |some (some v)=>some (back v true)
      |some none=>some (back z false)
      |none=>none
     |_=>none
    |_=>none) (kV P t k))
 |_=>none
def mf:List (AV× AV× Nat)->Nat->AV->List (AV× AV× Nat)
 |[],_,_=>[]
 |(k,_,b)::es,0,v=>(k,v,b)::es
 |e::es,n+1,v=>e::mf es n v
def mapUpdate(P:Program)(t:TypeId)(st:St)(x k v:AV):Option St :=
 (@Bool.rec (fun _=>_) none (
  match x with
  |.m r=>match st.get r with
   |some (.mp es clock)=>match find k es 0 with
    |some (some (i,_))=>some (st.put r (.mp (mf es i v) clock))
    |some none=>some (st.put r (.mp (es++[(k,v,clock)]) (clock+1)))
    |none=>none
   |_=>none
  |_=>none) (kV P t k))
inductive Out where
 |nx (t:Tr AV) (st:St)
 |ex (id:Nat) (t:Tr AV) (st:St)
 |rt (t:Tr AV) (st:St)
 |no
structure Self where
 call:FuncId->List AV->St->Option (AV× St)
 code:Nat->Code->Tr AV->St->Out
 dcall:FuncId->List AV->St->Option (AV× St)
abbrev aR:=Option (AV× St)
abbrev fR:=Program->Self->Tr AV->St->aR
def aF{α β:Type}(f:α->Option β):List α->Option (List β)
 |[]=>some []
 |a::l=>match f a with
  |some b=>match aF f l with|some r=>some (b::r)|none=>none
  |none=>none
def dC(st:St):Option AV->aR
 |some v=>some (v,st)
 |none=>none
def done:Option St->aR
 |some st=>some (.un,st)
 |none=>none
def alloc(st:St)(cells:List AV):AV× St:=(.p st.next 0,st.aw cells)
def args(t:Tr AV)(l:List Operand):List AV:=l.map (ai t)
def upto(c:Nat):List Nat->Nat->Option Nat
 |[],_=>none
 |x::l,n=>(@Bool.rec (fun _=>_) (upto c l (n+1)) (some n) (Q0 x c))
abbrev wW:=Program->St->List TypeId->List AV->aR
def int64(st:St):Option Nat->aR
 |some n=>some (.i .i64 (Q4 n),st)
 |none=>none
def lH:AV->Bool
 |.s _=>true
 |_=>false
def sg(P:Program)(st:St)(ts:List TypeId)(v:AV):aR :=
 match ts with
 |t::_=>match P.underlying t with
  |some .string=>@Bool.rec (fun _=>aR) none (int64 st (lenOf v)) (lH v)
  |some (.slice _)=>@Bool.rec (fun _=>aR) (int64 st (lenOf v)) none (lH v)
  |_=>none
 |[]=>none
def xQ(P:Program)(x:TypeId):Bool:=match P.underlying x with|some (.int _)=>true|_=>false
def Cl(P:Program)(st:St)(e n:Nat):Option (List AV)->aR
 |some l=>@Bool.rec (fun _=>aR) none (some (.sl st.next 0 n (aD P e) none,st.aw (rep n l))) (fits P e n)
 |none=>none
def Dd(P:Program)(st:St)(x n:Nat):Option TypeId->aR
 |some e=>@Bool.rec (fun _=>aR) none (@Bool.rec (fun _=>aR) (Cl P st e n (bm P e)) (some (.sn,st)) (Q0 n 0)) (xQ P x&&bp P e&&Q2 n 281474976710656)
 |none=>none
def Cp(P:Program)(st:St)(n:Nat):List TypeId->aR
 |t::x::_=>Dd P st x n (ez P t)
 |_=>none
def uY(P:Program)(st:St)(ts:List TypeId)(s x:AV):Option Nat->aR
 |some n=>match s with
  |.sn=>Cp P st n ts
  |_=>none
 |none=>append P st ts s x
def gS:wW:=fun P st ts as=>match as with
 |[s,x]=>uY P st ts s x (gk x)
 |_=>none
def ft:wW:=fun P st ts as=>match as with
 |[x]=>sg P st ts x
 |_=>none
def AG(st:St):AV->aR
 |.sl _ _ _ _ (some c)=>some (.i .i64 (Q4 c),st)
 |.sn=>some (.i .i64 0,st)
 |_=>none
def zR:wW:=fun P st ts as=>match ts,as with
 |t::_,[x]=>match ez P t with
  |some _=>AG st x
  |none=>none
 |_,_=>none
def DK:Option St->aR
 |some st=>some (.tu [],st)
 |none=>none
def yz(st:St)(r o n:Nat):Option (List AV)->aR
 |some l=>DK (wt st r o (rep n l))
 |none=>none
def Ik(P:Program)(st:St)(e:TypeId):AV->aR
 |.sl r o n _ _=>@Bool.rec (fun _=>aR) (yz st r o n (bm P e)) (some (.tu [],st)) (Q0 n 0)
 |.sn=>some (.tu [],st)
 |_=>none
def vA:wW:=fun P st ts as=>match ts,as with
 |t::_,[x]=>match ez P t with
  |some e=>Ik P st e x
  |none=>none
 |_,_=>none
def yX:wW:=fun _ st _ as=>match as with
 |[.i k a,.i _ b]=>some (.i k ((@Bool.rec (fun _=>_) a b (oe a b))),st)
 |_=>none
def S1:wW:=fun _ _ _ _=>none
def xj:Builtin->wW
 |.append=>gS
 |.len=>ft
 |.cap=>zR
 |.clear=>vA
 |.max=>yX
 |_=>S1
def Dl(P:Program)(S:Self)(st:St)(fn:Func)(f:FuncId)(as:List AV):aR :=
 match fn.body with
 |some _=>S.call f as st
 |none=>none
def qA(P:Program)(S:Self)(f:FuncId)(as:List AV)(st:St):aR :=
 match P.funcs[f]? with
 |some fn=>Dl P S st fn f as
 |none=>none
def Ig(st:St)(c:Nat):Option Nat->aR
 |some n=>some (.i .i64 (Q4 n),st)
 |none=>some (.i .i64 (-1),st)
def DG(st:St):List AV->aR
 |[.s l,.i .u8 (.ofNat c)]=>@Bool.rec (fun _=>aR) none (Ig st c (upto c l 0)) (Q1 c 256)
 |_=>none
def BT(fn:Func)(st:St)(as:List AV):aR :=
 @Bool.rec (fun _=>aR) none (DG st as) (fn.name == "internal/bytealg.IndexByteString"&&fn.origin == "")
def gN(P:Program)(S:Self)(st:St)(fn:Func)(f:FuncId)(as:List AV):aR :=
 match fn.body with
 |some _=>S.call f as st
 |none=>BT fn st as
def nj(P:Program)(S:Self)(f:FuncId)(as:List AV)(st:St):aR :=
 match P.funcs[f]? with
 |some fn=>gN P S st fn f as
 |none=>none
def Ew(nt:Nat):List Tmp->List AV->Tr AV->Option (Tr AV)
 |[],[],t=>some t
 |p::ps,v::vs,t=>(@Bool.rec (fun _=>_) none (Ew nt ps vs (t.set p (some v))) (Q1 p nt))
 |_,_,_=>none
def Dr(l:Nat)(row:Row):Out->aR
 |.nx _ st=>some (.b true,st.put l row)
 |_=>none
def GW(S:Self)(nt:Nat)(b:Code)(l:Nat)(row:Row):Out->aR
 |.nx t st=>Dr l row (S.code nt b t st)
 |_=>none
def round(S:Self)(l:Nat)(as:List AV)(st:St):aR :=
 match st.get l with
 |some (.lp t nt ps a b)=>match Ew nt ps as t with
  |some t'=>GW S nt b l (.lp t nt ps a b) (S.code nt a t' (st.drop l))
  |none=>none
 |_=>none
def PG(x:Operand):fR:=fun _ _ t st=>some (ai t x,st)
def rX(a b:AV)(st:St):Option Bool->aR
 |some true=>some (a,st)
 |some false=>some (b,st)
 |none=>none
def Ti(c a b:Operand):fR:=fun _ _ t st=>rX (ai t a) (ai t b) st (ai t c).gV
def mY(st:St):Option (List AV)->aR
 |some l=>some (alloc st l)
 |none=>none
def abM(e:TypeId):fR:=fun P _ _ st=>mY st (bm P e)
def TV(x:Operand):fR:=fun _ _ t st=>mY st (ai t x).cells
def gQ(t:Tr AV)(l:List (Nat× Operand)):List (Nat× AV):=l.map fun p=>(p.1,ai t p.2)
def gM(P:Program)(fs:Array Field)(n:Nat):Option (Nat× Nat):=match fs[n]? with|some f=>some (f.offset,aD P f.type)|none=>none
def jB(z n:Nat):Option (Nat× Nat):=some (n*z,z)
def EM(st:St):Option (List AV)->aR
 |some l=>some (.ag l,st)
 |none=>none
def fu(P:Program)(t:TypeId):Bool:=match P.underlying t with
 |some (.struct fs)=>fs.toList.all fun f=>bp P f.type
 |some (.array _ e)=>bp P e
 |_=>false
def jg(st:St)(place:Nat->Option (Nat× Nat))(l:List (Nat× AV)):Option (List AV)->aR
 |some z=>EM st (fill place z l)
 |none=>none
def df(P:Program)(ty:TypeId)(vs:List (Nat× AV))(st:St):aR:=match P.underlying ty with
 |some (.struct fs)=>jg st (gM P fs) vs (bm P ty)
 |some (.array _ e)=>jg st (jB (aD P e)) vs (bm P ty)
 |_=>none
def N6(ty:TypeId)(parts:Array (Nat× Operand)):fR:=fun P _ t st=>@Bool.rec (fun _=>aR) none (df P ty (gQ t parts.toList) st) (fu P ty)
def uq(st:St)(n z:Nat):Option (List AV)->aR
 |some l=>some (.sl st.next 0 n z (some n),st.aw l)
 |none=>none
def oZ(ty:TypeId)(len:Nat)(parts:Array (Nat× Operand)):fR:=fun P _ t st=>match ez P ty with
 |none=>none
 |some e=>match bm P e with
  |none=>none
  |some z=>(@Bool.rec (fun _=>_) none (uq st len (aD P e) (fill (jB (aD P e)) (rep len z) (gQ t parts.toList))) (Q2 (len*aD P e) 16777216))
def Zc(ty:TypeId)(a:Operand):fR:=fun P _ t st=>dC st (loadAt P ty st (ai t a))
def WD(ty:TypeId)(a x:Operand):fR:=fun P _ t st=>done (storeAt P ty st (ai t a) (ai t x))
def Fq(g:Fn)(x y:List AV)(st:St):aR :=
 match g with
 |.func n=>some (.f (.func n) x y,st)
 |.yield n=>some (.f (.yield n) x y,st)
 |_=>none
def notNil(st:St)(v:AV):aR :=
 @AV.rec (fun _=>_) (fun _=>PUnit.{1}) (fun _=>none) (fun _=>none) (fun _ _=>none) (fun _ _ _=>none) (fun _ _=>none) (fun r o st=>some (.p r o,st)) (fun _=>none) (fun g st=>some (.gp g,st)) (fun c _ st=>some (.rp c,st)) (fun _ _ _ _ _ _=>none) (fun _=>none) (fun _ _ _ _ _=>none) (fun _ _=>none) (fun _=>none) (fun g x y _ _ st=>Fq g x y st) (fun _=>none) (fun _ _ _ _=>none) (fun _=>none) (fun _ _ _=>none) (fun _ _ _=>none) (fun _ _=>none) (fun _=>none) ⟨⟩ (fun _ _ _ _=>⟨⟩) v st
theorem Oo(st:St)(v:AV):notNil st v=match v with|.p r o=>some (.p r o,st)|.gp g=>some (.gp g,st)|.rp c=>some (.rp c,st)|.f g x y=>Fq g x y st|_=>none:=by cases v<;>rfl
def TM(x:Operand):fR:=fun _ _ t st=>notNil st (ai t x)
def kU:Operand->Bool
 |.const _=>true
 |_=>false
def Ww(op:BinOp)(ty:TypeId)(x y:Operand):fR:=fun P _ t st=>dC st (binOp P ty (kU x||kU y) op (ai t x) (ai t y))
def RE(op:UnOp)(x:Operand):fR:=fun _ _ t st=>dC st (unOp op (ai t x))
def conv(P:Program)(st:St)(src dst:TypeId)(x:AV):aR:=match P.underlying src,P.underlying dst,x with
 |some _,some (.int k),.i _ n=>some (.i k (wr k n),st)
 |_,_,_=>none
def YZ(src dst:TypeId)(x:Operand):fR:=fun P _ t st=>conv P st src dst (ai t x)
def zL(fn:Fn)(first captured:Array Operand):fR:=fun _ _ t st=>@Bool.rec (fun _=>aR) none (some (.f fn (args t first.toList) (args t captured.toList),st)) (ou fn)
def zW(r:Option Operand):fR:=fun _ _ _ st=>match r with
 |none=>some (.m st.next,st.new (.mp [] 0))
 |some _=>none
def SZ(ty:TypeId)(x:Operand)(lo hi mx:Option Operand):fR:=fun P _ t st=>dC st (ia P st ty (ai t x) (lo.map (ai t)) (hi.map (ai t)) (mx.map (ai t)))
def fieldAt(o:Nat)(st:St)(a:AV):aR :=
 match a.bW with
 |some (r,k)=>some (.p r (k+o),st)
 |none=>match a.yQ with
  |some c=>some (.rp (c.drop o),st)
  |none=>none
def pZ(s:TypeId)(x:Operand)(n:Nat):fR:=fun P _ t st=>match ey P s n with
 |some o=>fieldAt o st (ai t x)
 |none=>none
def Sh(ty:TypeId)(x ix:Operand):fR:=fun P _ t st=>dC st (indexAddr P ty (ai t x) (ai t ix))
def XD(ty:TypeId)(x ix:Operand):fR:=fun P _ t st=>dC st (index P ty (ai t x) (ai t ix))
def Vu(ty:TypeId)(x ix:Operand)(ok:Bool):fR:=fun P _ t st=>dC st (lookup P ty st (ai t x) (ai t ix) ok)
def Ki(ty:TypeId)(m k x:Operand):fR:=fun P _ t st=>done (mapUpdate P ty st (ai t m) (ai t k) (ai t x))
def Cs:List (AV× AV× Nat)->Nat->Nat
 |[],_=>0
 |(_,_,b)::_,0=>b
 |_::es,n+1=>Cs es n
def FV(st:St)(r:Nat)(k:AV)(es:List (AV× AV× Nat))(clock:Nat):Option AV->aR
 |some z=>some (.tu [z,.i .i64 (Q4 clock)],st.put r (.mp (es++[(k,z,clock)]) (clock+1)))
 |none=>none
def Ao(P:Program)(st:St)(e:TypeId)(r:Nat)(k:AV):Option Row->aR
 |some (.mp es clock)=>match find k es 0 with
  |some (some (i,v))=>some (.tu [v,.i .i64 (Q4 (Cs es i))],st.put r (.mp es clock))
  |some none=>FV st r k es clock (zeroOf P e)
  |none=>none
 |_=>none
def mapEntry(P:Program)(ty:TypeId)(st:St)(x k:AV):aR :=
 @Bool.rec (fun _=>aR) none (match P.underlying ty,x with
  |some (.map _ e),.m r=>Ao P st e r k (st.get r)
  |_,_=>none) (kV P ty k)
def tJ(b:Nat):List (AV× AV× Nat)->Nat->Option Nat
 |[],_=>none
 |(_,_,c)::es,n=>@Bool.rec (fun _=>Option Nat) (tJ b es (n+1)) (some n) (Q0 c b)
def FO(st:St)(r:Nat)(v:AV)(es:List (AV× AV× Nat))(clock:Nat):Option Nat->Option St
 |some i=>some (st.put r (.mp (mf es i v) clock))
 |none=>none
def entryStore(st:St)(v:AV):AV->Option Nat->Option St
 |.m r,some b=>match st.get r with
  |some (.mp es clock)=>FO st r v es clock (tJ b es 0)
  |_=>none
 |_,_=>none
def Wx(ty:TypeId)(m k:Operand):fR:=fun P _ t st=>mapEntry P ty st (ai t m) (ai t k)
def acN(m s x:Operand):fR:=fun _ _ t st=>done (entryStore st (ai t x) (ai t m) (gk (ai t s)))
def rL(P:Program)(ty:TypeId)(st:St)(x:AV):aR:=match P.underlying ty,x with
 |some (.map _ _),.m r=>match st.get r with
  |some (.mp _ clock)=>some (.p st.next 0,st.new (.mi (some r) clock [] clock))
  |_=>none
 |_,_=>none
def acv(ty:TypeId)(x:Operand):fR:=fun P _ t st=>rL P ty st (ai t x)
def left(seen:List Nat)(es:List (AV× AV× Nat)):List (AV× AV× Nat):=es.filter fun e=>!mem e.2.2 seen
def FY(st:St)(r m since:Nat)(seen:List Nat)(last:Nat)(es:List (AV× AV× Nat))(clock:Nat):aR :=
 (@Bool.rec (fun _=>_) (
  match left seen es with
  |[]=>some (.tu [.b false],st)
  |[(k,v,b)]=>(@Bool.rec (fun _=>_) none (some (.tu [.b true,k,v],st.put r (.mi (some m) since (seen++[b]) clock))) (Q1 b since))
  |_=>none) none (!seen.isEmpty&&!es.isEmpty&&es.all fun e=>Q2 last e.2.2))
def wZ(st:St)(isS:Bool):AV->aR
 |.p r 0=>match st.get r,isS with
  |some (.mi (some m) since seen last),false=>match st.get m with
   |some (.mp es clock)=>FY st r m since seen last es clock
   |_=>none
  |_,_=>none
 |_=>none
def Vy(it:Operand)(isS:Bool):fR:=fun _ _ t st=>wZ st isS (ai t it)
def Bt:List Nat->Option Nat
 |[]=>none
 |[x]=>some x
 |_::l=>Bt l
def vQ(b:Nat)(st:St):List (AV× AV× Nat)->aR
 |[]=>none
 |(k,v,n)::l=>@Bool.rec (fun _=>aR) (vQ b st l) (some (.tu [k,v],st)) (Q0 n b)
def Dx(st:St)(es:List (AV× AV× Nat))(clock stepped:Nat):Option Nat->aR
 |some b=>@Bool.rec (fun _=>aR) none (vQ b st es) (Q0 clock stepped)
 |none=>none
def tm(st:St):AV->aR
 |.p r 0=>match st.get r with
  |some (.mi (some m) _ seen stepped)=>match st.get m with
   |some (.mp es clock)=>Dx st es clock stepped (Bt seen)
   |_=>none
  |_=>none
 |_=>none
def abF(it:Operand):fR:=fun _ _ t st=>tm st (ai t it)
def nth(n:Nat)(st:St):AV->aR
 |.tu l=>dC st l[n]?
 |_=>none
def acu(x:Operand)(n:Nat):fR:=fun _ _ t st=>nth n st (ai t x)
def tI(P:Program)(S:Self)(st:St)(as:List AV):AV->aR
 |.f (.func f) first captured=>nj P S f (first++(as++captured)) st
 |.f (.yield l) [] []=>round S l as st
 |_=>none
def sG(c:Call):fR:=fun P S t st=>match c.callee with
 |.builtin b=>xj b P st c.argTypes.toList (args t c.args.toList)
 |.value f=>tI P S st (args t c.args.toList) (ai t f)
 |_=>none
def ma:fR:=fun _ _ _ _=>none
def bH(o:Op):fR :=
 @Op.rec (fun _=>fR) PG PG Ti abM (fun _ x=>TV x) N6 oZ Ki Zc WD (fun _=>ma) (fun _=>ma) TM
  (fun op ty x y _=>Ww op ty x y) (fun op _ x=>RE op x) YZ (fun _ _=>ma) (fun _ _=>ma) zL (fun _ r=>zW r) (fun _ _=>ma) (fun _ _ _=>ma) SZ pZ (fun _ _ _=>ma)
  Sh XD Vu Ki Wx (fun _ m s x=>acN m s x) acv Vy abF (fun _ _ _ _=>ma) acu sG (fun _=>ma) (fun _=>ma)
  (fun _=>ma) (fun _ _=>ma) (fun _ _ _=>ma) (fun _ _=>ma) o
def da(P:Program)(S:Self)(t:Tr AV)(st:St)(o:Oper):aR:=bH o.op P S t st
def AV.seen(v:AV)(k:AV->β):β :=
 @AV.rec (fun _=>_) (fun _=>PUnit.{1}) (fun k:AV->β=>k .bad) (fun k=>k .un) (fun x k=>k (.b x)) (fun d n k=>k (.i d n)) (fun l k=>k (.s l)) (fun r o k=>k (.p r o)) (fun k=>k .pn) (fun g k=>k (.gp g)) (fun c _ k=>k (.rp c)) (fun r o n z c k=>k (.sl r o n z c)) (fun k=>k .sn) (fun c n z _ k=>k (.rs c n z)) (fun r k=>k (.m r)) (fun k=>k .mn) (fun g x y _ _ k=>k (.f g x y)) (fun k=>k .fn0) (fun t u _ k=>k (.ifc t u)) (fun k=>k .if0) (fun l _ k=>k (.ag l)) (fun l _ k=>k (.tu l)) (fun r k=>k (.c r)) (fun k=>k .cn) ⟨⟩ (fun _ _ _ _=>⟨⟩) v k
theorem AV.seen_eq(v:AV)(k:AV->β):v.seen k=k v:=by cases v<;>rfl
def AV.Ge(v:AV):Bool :=
 @AV.rec (fun _=>_) (fun _=>PUnit.{1}) false true (fun _=>false) (fun _ _=>false) (fun _=>false) (fun _ _=>false) false (fun _=>false) (fun _ _=>false) (fun _ _ _ _ _=>false) false (fun _ _ _ _=>false) (fun _=>false) false (fun _ _ _ _ _=>false) false (fun _ _ _=>false) false (fun _ _=>false) (fun _ _=>false) (fun _=>false) false ⟨⟩ (fun _ _ _ _=>⟨⟩) v
theorem AV.Sk{v:AV}(h:v.Ge=true):v=.un:=by cases v<;>first|rfl|cases h
def BO(want:Bool):Option AV->Option Bool
 |some v=>match v.gV with
  |some x=>some (x==want)
  |none=>cond v.Ge (some false) none
 |none=>some false
def rH(ops:Array Oper)(t:Tr AV)(j:Nat)(want:Bool):Option Bool :=
 match ops[j]? with
 |some g=>match g.dst with
  |some d=>BO want (t.get d)
  |none=>none
 |none=>none
def gj(ops:Array Oper)(t:Tr AV)(o:Oper):Option Bool :=
 match o.guard with
 |none=>some true
 |some (j,want)=>rH ops t j want
def eN(nt:Nat)(t:Tr AV)(d:Option Tmp)(v:AV):Option (Tr AV):=
 match d with
 |none=>some t
 |some d=>(@Bool.rec (fun _=>_) none (v.seen fun v=>some (t.set d (some v))) (Q1 d nt))
def Tr.seen(t:Tr α)(k:Tr α->β):β :=
 @Tr.rec α (fun _=>(Tr α->β)->β) (fun k=>k .lf) (fun v l r _ _ k=>k (.nd v l r)) t k
theorem Tr.seen_eq(t:Tr α)(k:Tr α->β):t.seen k=k t:=by cases t<;>rfl
def kJ(o:Option (Tr AV))(k:Tr AV->Out):Out :=
 match o with
 |some t=>t.seen k
 |none=>.no
def qB(nt:Nat)(t:Tr AV)(d:Option Tmp)(r:aR)(k:Tr AV->St->Out):Out :=
 match r with
 |some (v,st)=>kJ (eN nt t d v) fun t=>k t st
 |none=>.no
def nJ(P:Program)(S:Self)(nt:Nat)(o:Oper)(t:Tr AV)(st:St)(k:Tr AV->St->Out):Option Bool->Out
 |some true=>qB nt t o.dst (da P S t st o) k
 |some false=>kJ (eN nt t o.dst .un) fun t=>k t st
 |none=>.no
def bR(P:Program)(S:Self)(nt:Nat)(ops:Array Oper)(l:List Oper):Tr AV->St->Out :=
 @List.rec Oper (fun _=>Tr AV->St->Out) (fun t st=>.nx t st) (fun o _ k t st=>nJ P S nt o t st k (gj ops t o)) l
def kind:Op->Nat
 |.move _|.assign _|.pick _ _ _|.build _ _|.nilCheck _|.binOp _ _ _ _ _|.unOp _ _ _|.field _ _ _|.fieldAddr _ _ _|.indexAddr _ _ _|.index _ _ _|.extract _ _|.makeInterface _ _
 |.makeFunc _ _ _=>0
 |.load _ _|.lookup _ _ _ _|.slice _ _ _ _ _=>1
 |.call { callee:=.builtin .len,.. }=>1
 |.alloc _|.box _ _|.buildSlice _ _ _=>2
 |_=>3
def ahead(acc:List Nat):List Edge->Option Nat
 |[]=>some 0
 |e::l=>match ahead acc l with
  |none=>none
  |some m=>cond (Region.binds .any e) (match acc[e.on]? with|some k=>some (Q6 m (Q6 (2 ^ e.on) k))|none=>none) (some m)
def lG:List Oper->List Nat->Option (List Nat)
 |[],acc=>some acc
 |o::l,acc=>match ahead acc o.after.toList with
  |some m=>lG l (acc++[m])
  |none=>none
def PH(x y:Oper):Bool :=
 match x.dst with
 |some d=>y.dst==some d
 |none=>false
def clash(a b:Nat):Bool:=Q2 2 a&&Q0 b 3
def xv(ops:Array Oper)(x y:Oper)(o:Bool):Bool:=!PH x y&&(o||(Oper.apart ops x y&&!clash (kind x.op) (kind y.op)))
def EG(ops:Array Oper)(y:Oper)(i:Nat):List Oper->List Nat->Bool
 |o::l,b::bs=>(cond (match y.dst with|some d=>(o.looksAt ops).contains d|none=>false) (Q3 b i) true)&&EG ops y i l bs
 |_,_=>true
def CW(ops:Array Oper)(bs:List Nat)(x y:Oper)(i:Nat)(o:Bool):Bool:=cond (Q0 (kind x.op) 3&&(Q0 (kind y.op) 2&&!o)) (EG ops y i ops.toList bs) true
def zU(ops:Array Oper)(bs:List Nat)(y:Oper)(bj:Nat):List Oper->Nat->Bool
 |[],_=>true
 |x::l,i=>(xv ops x y (Q3 bj i)&&CW ops bs x y i (Q3 bj i))&&zU ops bs y bj l (i+1)
def H3:Op->Bool
 |.select _ _=>true
 |_=>false
def vT(ops:Array Oper)(all:List Nat):List Oper->List Oper->List Nat->Bool
 |_,[],[]=>true
 |done,y::l,b::bs=>(!H3 y.op&&zU ops all y b done 0)&&vT ops all (done++[y]) l bs
 |_,_,_=>false
def AU(b p:Nat):List Nat->Nat->Bool
 |[],_=>false
 |k::l,i=>(Q2 p i&&(Q0 k 3&&Q3 b i))||AU b p l (i+1)
def calm(p j:Nat):List Nat->Nat->Bool
 |[],_=>true
 |k::l,i=>(Q1 i p||(Q2 j i||Q1 k 2))&&calm p j l (i+1)
def bh(l:List Nat)(i:Nat):Nat:=match l[i]? with|some k=>k|none=>0
def Nr(bs:List Nat)(p j:Nat):Bool:=match p with|0=>false|p+1=>Q3 (bh bs p) j
def pinned(ks bs:List Nat)(j p:Nat):Bool:=Nr bs p j||(AU (bh bs j) p ks 0||(Q2 p j&&calm p j ks 0))
def qf:List Nat->Nat->List Nat
 |[],_=>[]
 |k::l,i=>cond (Q0 k 3) ((i+1)::qf l (i+1)) (qf l (i+1))
def ue(ks bs:List Nat)(ps:List Nat):List Nat->Nat->List (Nat× Nat)
 |[],_=>[]
 |k::l,j=>cond (Q0 k 1) ((ps.filter fun p=>!pinned ks bs j p).map (fun p=>(j,p))++ue ks bs ps l (j+1)) (ue ks bs ps l (j+1))
def kj(ops:Array Oper):Option (List (Nat× Nat)):=
 match lG ops.toList [] with
 |some bs=>cond (vT ops bs [] ops.toList bs) (some (ue (ops.toList.map fun o=>kind o.op) bs (0::qf (ops.toList.map fun o=>kind o.op) 0) (ops.toList.map fun o=>kind o.op) 0)) none
 |none=>none
def wU(f:AV->AV->Bool):List AV->List AV->Bool
 |[],[]=>true
 |a::l,b::m=>cond (f a b) (wU f l m) false
 |_,_=>false
def Im:Option Nat->Option Nat->Bool
 |some a,some b=>Q0 a b
 |none,none=>true
 |_,_=>false
def qv:Nat->AV->AV->Bool
 |0,_,_=>false
 |n+1,a,b=>match a,b with
  |.un,.un=>true
  |.b x,.b y=>cond x y (!y)
  |.i k a,.i k' b=>ud k k'&&pV a b
  |.s l,.s l'=>leq l l'
  |.p r o,.p r' o'=>Q0 r r'&&Q0 o o'
  |.pn,.pn=>true
  |.gp g,.gp g'=>Q0 g g'
  |.rp c,.rp c'=>wU (qv n) c c'
  |.sl r o m z c,.sl r' o' m' z' c'=>Q0 r r'&&(Q0 o o'&&(Q0 m m'&&(Q0 z z'&&Im c c')))
  |.sn,.sn=>true
  |.rs c m z,.rs c' m' z'=>Q0 m m'&&(Q0 z z'&&wU (qv n) c c')
  |.m r,.m r'=>Q0 r r'
  |.mn,.mn=>true
  |.f (.func g) [] [],.f (.func g') [] []=>Q0 g g'
  |.fn0,.fn0=>true
  |.ifc t v,.ifc t' v'=>Q0 t t'&&qv n v v'
  |.if0,.if0=>true
  |.ag l,.ag l'=>wU (qv n) l l'
  |.tu l,.tu l'=>wU (qv n) l l'
  |_,_=>false
structure Rec where
 t:Tr AV
 st:St
 v:AV
 w:Bool
def tD(r:Rec):Option (List Rec)->Option (List Rec)
 |some l=>some (r::l)
 |none=>none
def lh(r:Rec)(o:Option (Tr AV))(k:Tr AV->Option (List Rec)):Option (List Rec):=
 match o with
 |some t=>tD r (k t)
 |none=>none
def o8(nt:Nat)(t:Tr AV)(st:St)(d:Option Tmp)(r:Option (AV× St))(k:Tr AV->St->Option (List Rec)):Option (List Rec):=
 match r with
 |some (v,st')=>lh ⟨t,st,v,true⟩ (eN nt t d v) fun t=>k t st'
 |none=>none
def bI(P:Program)(S:Self)(nt:Nat)(ops:Array Oper):List Oper->Tr AV->St->Option (List Rec)
 |[],t,st=>some [⟨t,st,.un,false⟩]
 |o::l,t,st=>match gj ops t o with
  |some true=>o8 nt t st o.dst (da P S t st o) (bI P S nt ops l)
  |some false=>lh ⟨t,st,.un,false⟩ (eN nt t o.dst .un) fun t=>bI P S nt ops l t st
  |none=>none
def PJ(a b:AV):Bool:=@decide (a=b) (Classical.propDecidable _)
def Eg(v:AV):Option (AV× St)->Bool
 |some (u,_)=>qv 4 v u||PJ v u
 |none=>false
def Fi(P:Program)(S:Self)(r q:Rec):Option Oper->Bool
 |some o=>cond r.w (Eg r.v (da P S r.t q.st o)) true
 |none=>false
def recheck(P:Program)(S:Self)(ops:Array Oper)(R:List Rec)(jp:Nat× Nat):Bool :=
 match R[jp.1]?,R[jp.2]? with
 |some r,some q=>Fi P S r q ops[jp.1]?
 |_,_=>false
def jo:List Rec->Out
 |[]=>.no
 |[r]=>.nx r.t r.st
 |_::l=>jo l
def nD(P:Program)(S:Self)(ops:Array Oper)(fl:List (Nat× Nat)):Option (List Rec)->Out
 |some R=>cond (fl.all (recheck P S ops R)) (jo R) .no
 |none=>.no
def yg(o:Oper):Option Tmp :=
 match o.guard with
 |some _=>none
 |none=>match o.op with
  |.makeMap _ none=>o.dst
  |_=>none
def ij(d:Tmp)(o:Oper):Option (TypeId× Operand× Operand):=
 match o.guard,o.dst with
 |none,none=>match o.op with
  |.insert ty (.tmp e) k x=>cond (Q0 e d) (some (ty,k,x)) none
  |_=>none
 |_,_=>none
def lV(d:Tmp)(o:Oper):Oper :=
 match ij d o with
 |some (_,k,x)=>{ o with op:=.makeFunc (.func 0) #[] #[k,x] }
 |none=>cond (o.dst==some d) { o with op:=.move (.const (.bool true)),dst:=none } o
def DO:List Oper->Nat->Option (Nat× Tmp)
 |[],_=>none
 |o::l,i=>match yg o with
  |some d=>some (i,d)
  |none=>DO l (i+1)
def Fp(d:Tmp):List Oper->Nat->Nat->Nat
 |[],_,h=>h
 |o::l,i,h=>Fp d l (i+1) (match ij d o with|some _=>i+1|none=>h)
def Qp(o:Oper)(i0 h:Nat):Bool :=
 match o.guard with
 |some (g,_)=>Q1 g h&&!Q0 g i0
 |none=>true
def zQ(aops:Array Oper)(d:Tmp)(i0 h:Nat):List Oper->List Nat->Nat->Bool
 |[],_,_=>true
 | o :: l,b :: bs,j=>(!((lV d o).looksAt aops).contains d && (Qp o i0 h &&
   (match ij d o with|some _=>Q3 b i0|none=>Q0 j i0||!(o.dst==some d))))&&zQ aops d i0 h l bs (j+1)
 |_,[],_=>false
def BZ(b:Nat):Nat->Bool
 |0=>true
 |n+1=>Q3 b n&&BZ b n
def xX:List Nat->Nat->Bool
 |[],_=>true
 |b::bs,j=>BZ b j&&xX bs (j+1)
structure yy where
 i0:Nat
 d:Tmp
 h:Nat
 aops:Array Oper
 fl:List (Nat× Nat)
def MX(ops aops:Array Oper)(i0:Nat)(d:Tmp)(h:Nat):Option yy :=
 match lG aops.toList [],lG ops.toList [] with
 | some bs,some bsF=>cond ((Q1 i0 h && Q2 h ops.size) && (vT aops bs [] aops.toList bs && (zQ aops d i0 h (ops.toList.take h) bs 0 && xX (bsF.drop h) h)))
   (some ⟨i0,d,h,aops,ue (aops.toList.map fun o=>kind o.op) bs (0::qf (aops.toList.map fun o=>kind o.op) 0) (aops.toList.map fun o=>kind o.op) 0⟩) none
 |_,_=>none
def vZ(ops:Array Oper):Option yy :=
 match DO ops.toList 0 with
 |some (i0,d)=>MX ops ((ops.toList.take (Fp d ops.toList 0 (i0+1))).map (lV d)).toArray i0 d (Fp d ops.toList 0 (i0+1))
 |none=>none
def Di:AV->Option (AV× AV)
 |.f _ [] [k,x]=>some (k,x)
 |_=>none
def isFalse:Option Bool->Bool
 |some false=>true
 |_=>false
def AK(k:AV):List (AV× AV)->Bool
 |[]=>true
 |(x,_)::es=>(isFalse (ju k x)&&isFalse (ju x k))&&AK k es
def yZ(P:Program)(d:Tmp):List Oper->List Rec->Option (List (AV× AV))
 |[],_=>some []
 |o::l,r::R=>match ij d o,yZ P d l R with
  |some (ty,_,_),some es=>match Di r.v with
   |some kv=>cond (kV P ty kv.1&&AK kv.1 es) (some (kv::es)) none
   |none=>none
  |none,r=>r
  |_,none=>none
 |_,[]=>none
def Cv(P:Program)(S:Self)(nt:Nat)(ops:Array Oper)(h:Nat)(es:List (AV× AV))(st:St):Option (Tr AV)->Out
 |some t=>t.seen fun t=>bR P S nt ops (ops.toList.drop h) t (st.new (.mu es))
 |none=>.no
def ND(P:Program)(S:Self)(nt:Nat)(ops:Array Oper)(d:Tmp)(h:Nat)(es:List (AV× AV)):Out->Out
 |.nx t st=>Cv P S nt ops h es st (eN nt t (some d) (.m st.next))
 |_=>.no
def Gy(P:Program)(S:Self)(nt:Nat)(ops:Array Oper)(m:yy):Option (List Rec)->Out
 |some R=>cond (m.fl.all (recheck P S m.aops R)) (match yZ P m.d (ops.toList.take m.h) R with|some es=>ND P S nt ops m.d m.h es (jo R)|none=>.no) .no
 |none=>.no
def Qx(τ:List Nat)(e:Edge):Edge:={ e with on:=bh τ e.on }
def Rn(τ:List Nat):Option (Nat× Bool)->Option (Nat× Bool)
 |some (g,w)=>some (bh τ g,w)
 |none=>none
def Hj(τ:List Nat)(o:Oper):Oper:={ o with after:=(o.after.toList.map (Qx τ)).toArray,guard:=Rn τ o.guard }
def reorder(ops:Array Oper)(τ:List Nat):List Nat->Option (List Oper)
 |[]=>some []
 |i::l=>match ops[i]?,reorder ops τ l with
  |some o,some r=>some (Hj τ o::r)
  |_,_=>none
def GD(i:Nat):List Nat->Nat->Nat
 |[],k=>k
 |x::l,k=>cond (Q0 x i) k (GD i l (k+1))
def Am(b m:Nat):Nat->List Nat
 |0=>[]
 |k+1=>Am b m k++cond (Q3 b k&&!Q3 m k) [k] []
def HI:List Nat->List Nat->Nat->Nat->List Nat
 |k::ks,b::bs,i,m=>cond (Q0 k 3) (Am b m i++(i::HI ks bs (i+1) (Q6 m (Q6 b (2 ^ i))))) (HI ks bs (i+1) m)
 |_,_,n,m=>Am (2 ^ n-1) m n
def Ab(n:Nat)(σ τ:List Nat):Nat->Bool
 |0=>true
 |k+1=>(Q1 (bh σ k) n&&(Q1 (bh τ k) n&&(Q0 (bh σ (bh τ k)) k&&Q0 (bh τ (bh σ k)) k)))&&Ab n σ τ k
def QD(n:Nat):Option (Nat× Bool)->Bool
 |some (g,_)=>Q1 g n
 |none=>true
def Bc(n:Nat):List Oper->Bool
 |[]=>true
 |o::l=>QD n o.guard&&Bc n l
structure nZ where
 σ:List Nat
 τ:List Nat
 pops:Array Oper
 fl:List (Nat× Nat)
def Pu(ops:Array Oper)(σ τ:List Nat)(pops:Array Oper):Option (List (Nat× Nat))->Option nZ
 |some fl=>cond (Q0 pops.size ops.size&&(Ab ops.size σ τ ops.size&&Bc ops.size ops.toList)) (some ⟨σ,τ,pops,fl⟩) none
 |none=>none
def Qa(ops:Array Oper)(σ τ:List Nat):Option (List Oper)->Option nZ
 |some l=>Pu ops σ τ l.toArray (kj l.toArray)
 |none=>none
def OR(ops:Array Oper)(σ τ:List Nat):Option nZ:=Qa ops σ τ (reorder ops τ σ)
def Ei(ops:Array Oper)(σ:List Nat):Option nZ:=OR ops σ ((List.range ops.size).map fun i=>GD i σ 0)
def oh(ops:Array Oper):Option nZ :=
 match lG ops.toList [] with
 |some bs=>Ei ops (HI (ops.toList.map fun o=>kind o.op) bs 0 0)
 |none=>none
def H7(n:Nat):List Nat->List Nat->Nat->Nat->List Nat
 |k::ks,b::bs,i,m=>cond (Q0 k 3) (Am b m n++(i::H7 n ks bs (i+1) (Q6 m (Q6 b (2 ^ i))))) (H7 n ks bs (i+1) m)
 |_,_,_,m=>Am (2 ^ n-1) m n
def XG(x y:Nat)(bs:List Nat):List Nat:=bs.set x (Q6 (bh bs x) (Nat.sub (bh bs y) (2 ^ x)))
def zo(ops:Array Oper)(x y:Nat):Option nZ :=
 match lG ops.toList [] with
 |some bs=>Ei ops (H7 ops.size (ops.toList.map fun o=>kind o.op) (XG x y bs) 0 0)
 |none=>none
def Ad(P:Program)(S:Self)(nt:Nat)(t:Tr AV)(st:St):Option nZ->Out
 |some m=>nD P S m.pops m.fl (bI P S nt m.pops m.pops.toList t st)
 |none=>.no
def Jv(x:Nat):Edge:=⟨x,.data⟩
def sj(x:Nat)(o:Oper):Oper:={ o with after:=o.after.push (Jv x) }
def addEdge(x:Nat):Nat->List Oper->List Oper
 |_,[]=>[]
 |0,o::l=>sj x o::l
 |y+1,o::l=>o::addEdge x y l
def jf(k i:Nat):Nat:=cond (Q0 i k) (k+1) (cond (Q0 i (k+1)) k i)
def ab1(k:Nat)(o:Oper):Oper:={ o with after:=(o.after.toList.filter fun e=>!(Q0 e.on k)).toArray }
def xL(k:Nat)(e:Edge):Edge:=⟨jf k e.on,e.ground⟩
def FR(k:Nat)(o:Oper):Oper:={ o with after:=(o.after.toList.map (xL k)).toArray }
def vO(k i:Nat)(o:Oper):Oper:=cond (Q0 i k) (FR k (sj (k+1) o)) (cond (Q0 i (k+1)) (FR k (ab1 k o)) (FR k o))
def vS(f:Nat->Oper->Oper):Nat->List Oper->List Oper
 |_,[]=>[]
 |i,o::l=>f i o::vS f (i+1) l
def lZ:Nat->List Oper->List Oper
 |0,x::y::r=>y::x::r
 |k+1,o::r=>o::lZ k r
 |_,l=>l
def fp(k:Nat)(pops:Array Oper):Array Oper:=(lZ k (vS (vO k) 0 pops.toList)).toArray
def Cg(k:Nat)(o:Oper):Bool:=match o.guard with|some (g,_)=>!(Q0 g k)&&!(Q0 g (k+1))|none=>true
def sS(x y:Nat)(ops:Array Oper):Array Oper:=(addEdge x y ops.toList).toArray
structure uV where
 m:nZ
 k:Nat
 flB:List (Nat× Nat)
def Lk(o:Oper):Bool:=match o.op,o.dst,o.guard with
 |.store _ _ _,none,none=>true
 |_,_,_=>false
def vR(pops:Array Oper)(i:Nat):Bool:=match pops[i]? with|some o=>Lk o|none=>false
def Nq(b:Nat):List Nat->Nat->Option Nat
 |[],_=>none
 |k::ks,i=>cond (Q0 k 3&&!Q3 b i) (some i) (Nq b ks (i+1))
def Fs(ks:List Nat):List Nat->List Nat->Nat->Option (Nat× Nat)
 |k::r,b::bs,i=>cond (Q0 k 3) (match Nq b (ks.take i) 0 with|some x=>some (x,i)|none=>Fs ks r bs (i+1)) (Fs ks r bs (i+1))
 |_,_,_=>none
def JT(m:nZ)(k:Nat):Option (List (Nat× Nat))->Option uV
 |some fl=>cond (vR m.pops k&&(vR m.pops (k+1)&&m.pops.toList.all (Cg k))) (some ⟨m,k,fl⟩) none
 |none=>none
def Mo(x y:Nat):Option nZ->Option uV
 |some m=>cond (Q0 (bh m.τ y) (bh m.τ x+1)) (JT m (bh m.τ x) (kj (fp (bh m.τ x) m.pops))) none
 |none=>none
def Px(ops:Array Oper):Option (Nat× Nat)->Option uV
 |some (x,y)=>cond (Q1 x ops.size&&(Q1 y ops.size&&!Q0 x y)) (Mo x y (zo (sS x y ops) x y)) none
 |none=>none
def qE(ops:Array Oper):Option uV :=
 match lG ops.toList [] with
 |some bs=>Px ops (Fs (ops.toList.map fun o=>kind o.op) (ops.toList.map fun o=>kind o.op) bs 0)
 |none=>none
def Eh(r:Rec):Op->Op->Bool
 |.store _ a1 _,.store _ a2 _=>match (ai r.t a1).bW,(ai r.t a2).bW with
  |some (r1,_),some (r2,_)=>match r.st.ce r1,r.st.ce r2 with
   |some (_,g1,_),some (_,g2,_)=>!(Q0 r1 r2)&&!(Q0 g1 g2)
   |_,_=>false
  |_,_=>false
 |_,_=>false
def qL(pops:Array Oper)(k:Nat)(R:List Rec):Bool:=match R[k]?,pops[k]?,pops[k+1]? with
 |some r,some x,some y=>Eh r x.op y.op
 |_,_,_=>false
def Ai(P:Program)(S:Self)(m:uV):Option (List Rec)->Option (List Rec)->Out
 |some RA,some RB=>cond (m.m.fl.all (recheck P S m.m.pops RA)&&(m.flB.all (recheck P S (fp m.k m.m.pops) RB)&&qL m.m.pops m.k RA)) (jo RA) .no
 |_,_=>.no
def yE(P:Program)(S:Self)(nt:Nat)(t:Tr AV)(st:St):Option uV->Out
 |some m=>Ai P S m (bI P S nt m.m.pops m.m.pops.toList t st) (bI P S nt (fp m.k m.m.pops) (fp m.k m.m.pops).toList t st)
 |none=>.no
def wC(P:Program)(S:Self)(nt:Nat)(ops:Array Oper)(t:Tr AV)(st:St):Option nZ->Out
 |some m=>Ad P S nt t st (some m)
 |none=>yE P S nt t st (qE ops)
def vU(P:Program)(S:Self)(nt:Nat)(ops:Array Oper)(t:Tr AV)(st:St):Option yy->Out
 |some m=>Gy P S nt ops m (bI P S nt m.aops m.aops.toList t st)
 |none=>wC P S nt ops t st (oh ops)
def xf(P:Program)(S:Self)(nt:Nat)(ops:Array Oper)(t:Tr AV)(st:St):Option (List (Nat× Nat))->Out
 |some fl=>nD P S ops fl (bI P S nt ops ops.toList t st)
 |none=>vU P S nt ops t st (vZ ops)
structure Ctx where
 P:Program
 S:Self
 inR:Bool
 nt:Nat
 n:Nat
def bT(o:Out)(k:Tr AV->St->Out):Out :=
 match o with
 |.nx t st=>k t st
 |o=>o
def qk(id:Nat):Out->Out
 |.ex i t st=>(@Bool.rec (fun _=>_) (.ex i t st) (.nx t st) (Q0 i id))
 |o=>o
def su(x y:Tr AV->St->Out)(t:Tr AV)(st:St)(v:AV):Out :=
 match v.gV with
 |some true=>x t st
 |some false=>y t st
 |none=>.no
def bf(body:Tr AV->St->Out)(n:Nat):Tr AV->St->Out :=
 @Nat.rec (fun _=>Tr AV->St->Out) (fun _ _=>.no) (fun _ k t st=>bT (body t st) k) n
def AD(t:Tr AV)(st:St)(l:Nat):Option Row->Out
 |some (.lp _ _ _ _ _)=>.nx t (st.drop l)
 |_=>.no
def rh(x:Ctx)(ps:Array Tmp)(a b:Code)(t:Tr AV)(st:St):AV->Out
 |.f (.func g) first captured =>
  match qA x.P x.S g (first++([.f (.yield st.next) [] []]++captured)) (st.new (.lp t x.nt ps.toList a b)) with
  |some (_,st')=>AD t st' st.next (st'.get st.next)
  |none=>.no
 |_=>.no
def kc(x:Ctx)(ops:Array Oper)(t:Tr AV)(st:St):Out:=xf x.P x.S x.nt ops t st (kj ops)
def ao(c:Code):Ctx->Tr AV->St->Out :=
 @Code.rec (fun _=>Ctx->Tr AV->St->Out)
  (fun _ t st=>.nx t st)
  (fun _ ops d x t st=>@Bool.rec (fun _=>Out) (bR x.P x.S x.nt ops ops.toList t st) (kc x ops t st) d)
  (fun _ _ ea eb x t st=>bT (ea x t st) (eb x))
  (fun c _ _ ea eb x t st=>su (ea x) (eb x) t st (ai t c))
  (fun id _ eb x t st=>qk id (eb x t st))
  (fun _ eb x t st=>bf (eb x) x.n t st)
  (fun f ps a b _ _ x t st=>cond x.inR .no (rh x ps a b t st (ai t f)))
  (fun id _ t st=>.ex id t st)
  (fun _ _ _ _ _=>.no)
  (fun _ _ t st=>.nx t st)
  (fun _ _ _ _=>.no)
  (fun _ t st=>.rt t st)
  (fun _ _ _ _=>.no) c
def oT(P:Program)(t:Tr AV)(st:St):ResultVar->Option AV
 |.tmp x=>some (match t.get x with|some v=>v|none=>.un)
 |.cell a ty=>match t.get a with|some v=>loadAt P ty st v|none=>none
def oj(P:Program)(l:List ResultVar)(t:Tr AV)(st:St):aR :=
 match aF (oT P t st) l with
 |some [v]=>some (v,st)
 |some vs=>some (.tu vs,st)
 |none=>none
def tmpsOf:List AV->Nat->Tr AV->Tr AV
 |[],_,t=>t
 |v::l,n,t=>tmpsOf l (n+1) (t.set n (some v))
def eE(P:Program)(l:List ResultVar):Out->aR
 |.nx t st=>oj P l t st
 |.rt t st=>oj P l t st
 |_=>none
def Pw(c:Call):Option Operand:=match c.callee,c.args.toList with
 |.value f,[]=>some f
 |_,_=>none
def uQ(o:Oper):Option Operand:=match o.op,o.guard with
 |.defer c,none=>Pw c
 |_,_=>none
def CM:List Oper->Option (List Oper× Oper× Operand)
 |[]=>none
 |o::l=>match l with
  |[]=>match uQ o with|some f=>some ([],o,f)|none=>none
  |_=>match CM l with|some (h,d,f)=>some (o::h,d,f)|none=>none
def yO:Code->Option (Array Oper× List Oper× Oper× Operand)
 |.region _ ops false=>match CM ops.toList with|some (h,d,f)=>some (ops,h,d,f)|none=>none
 |_=>none
def defers:Nat->Code->Bool
 |n+1,.seq a b=>(yO a).isSome||defers n b
 |_,_=>false
def HE(t:Tr AV):aR->Out
 |some (_,st)=>.nx t st
 |none=>.no
def FZ(S:Self)(st:St)(fn:Func)(f:FuncId)(as:List AV):aR :=
 match fn.body with
 |some _=>S.dcall f as st
 |none=>none
def Ef(P:Program)(S:Self)(f:FuncId)(as:List AV)(st:St):aR :=
 match P.funcs[f]? with
 |some fn=>FZ S st fn f as
 |none=>none
def pQ(x:Ctx)(t:Tr AV)(st:St):AV->Out
 |.f (.func g) first captured=>HE t (Ef x.P x.S g (first++captured) st)
 |_=>.no
def Aq(x:Ctx)(v:AV):Out->Out
 |.nx t st=>pQ x t st v
 |.rt t st=>pQ x t st v
 |_=>.no
def Ip(x:Ctx)(f:Operand)(k:Tr AV->St->Out)(t:Tr AV)(st:St):Option (Tr AV)->Out
 |some t'=>t'.seen fun t'=>Aq x (ai t f) (k t' st)
 |none=>.no
def AT(x:Ctx)(d:Oper)(f:Operand)(k:Tr AV->St->Out):Out->Out
 |.nx t st=>Ip x f k t st (eN x.nt t d.dst .un)
 |_=>.no
def tN(x:Ctx):Nat->Code->Tr AV->St->Out
 |n+1,.seq a b=>fun t st=>match yO a with
  |some (ops,h,d,f)=>AT x d f (ao b x) (bR x.P x.S x.nt ops h t st)
  |none=>bT (ao a x t st) (tN x n b)
 |_,c=>fun t st=>ao c x t st
def ui(x:Ctx)(c:Code):Tr AV->St->Out:=@Bool.rec (fun _=>Tr AV->St->Out) (ao c x) (tN x 4 c) (defers 4 c)
def ke(P:Program)(S:Self)(n:Nat)(f:FuncId)(as:List AV)(st:St):aR :=
 match P.funcs[f]? with
 |none=>none
 |some fn=>match fn.body with
  |none=>none
  |some c=>(@Bool.rec (fun _=>_) none (eE P fn.results.toList (ui ⟨P,S,false,fn.ntmps,n⟩ c (tmpsOf as 0 .lf) st)) (Q2 as.length fn.ntmps))
def self(P:Program)(n:Nat):Self :=
 @Nat.rec (fun _=>Self) ⟨fun _ _ _=>none,fun _ _ _ _=>.no,fun _ _ _=>none⟩ (fun n s=>⟨ke P s n,fun nt c t st=>ao c ⟨P,s,true,nt,n⟩ t st,ke P s n⟩) n
def Ui(P:Program)(n:Nat):FuncId->List AV->St->aR:=(self P n).call
theorem bu(a b:Nat):Q0 a b=decide (a=b):=by rw[Bool.eq_iff_iff];simp_all
theorem EX(f n:Nat):ql (f+1) n=if n=0 then[] else if n % 2=1 then true::ql f (n / 2) else false::ql f (n / 2-1):=by
 have h:ql (f+1) n=@Bool.rec (fun _=>List Bool) (@Bool.rec (fun _=>List Bool) (false::ql f (n / 2-1)) (true::ql f (n / 2)) (Q0 (n % 2) 1)) [] (Q0 n 0):=rfl;rw[h,bu,bu];by_cases h0:n=0
 ·simp_all
 ·by_cases h1:n % 2=1<;>simp[h0,h1]
theorem Wo:∀ (f n:Nat),n<=f->∀ g m,m<=g->ql f n=ql g m->n=m:=by
 intro f;induction f with
 |zero =>
  intro n hn g m hm h;have:n=0:=by omega
  subst this;cases g with
  |zero=>omega
  |succ g =>
   rw[EX]at h;by_cases e:m=0
   ·grind
   ·rw[if_neg e,show ql 0 0=[] from rfl]at h;grind
 |succ f ih =>
  intro n hn g m hm h;rw[EX]at h;by_cases e:n=0
  ·cases g with
   |zero=>omega
   |succ g =>grind[EX]
  ·cases g with
   |zero =>rw[show ql 0 m=[] from rfl]at h;grind
   |succ g =>grind[EX]
theorem Pt{m:Nat}(h:Bd n=Bd m):n=m:=Wo n n (Q7 _) m m (Q7 _) h
theorem Tr.Bh{α:Type}(v:Option α):∀ (p q:List Bool) (t:Tr α),(Tr.gr p v t).po q=if q=p then v else t.po q
 |[],[],t=>by cases t<;>rfl
 |[],b::q,t=>by cases t<;>cases b<;>simp[Tr.gr,Tr.po]<;>(cases q<;>rfl)
 |b::p,[],t=>by cases t<;>cases b<;>simp[Tr.gr,Tr.po]
 |b::p,c::q,t=>by
  cases t with
  |lf =>
   have h:Tr.po q (Tr.lf:Tr α)=none:=by cases q<;>rfl
   cases b<;>cases c<;>simp
   ·show Tr.po q (Tr.gr p v .lf)=_
    rw[Tr.Bh v p q .lf,h];rfl
   ·show Tr.po q .lf=_
    rw[h];rfl
   ·show Tr.po q .lf=_
    rw[h];rfl
   ·show Tr.po q (Tr.gr p v .lf)=_
    rw[Tr.Bh v p q .lf,h];rfl
  |nd o l r =>
   cases b<;>cases c<;>simp
   ·show Tr.po q (Tr.gr p v r)=_
    rw[Tr.Bh v p q r];rfl
   ·rfl
   ·rfl
   ·show Tr.po q (Tr.gr p v l)=_
    rw[Tr.Bh v p q l];rfl
theorem Tr.eh(t:Tr α)(n:Nat)(v:Option α)(m:Nat):(t.set n v).get m=if m=n then v else t.get m:=by grind[Tr.get,Tr.set,Tr.Bh,Pt]
theorem Tr.uy(n:Nat):(Tr.lf:Tr α).get n=none:=by unfold Tr.get;cases Bd n<;>rfl
structure fy where
 b:Nat
 d:Nat
 n:Nat
structure Env where
 imm:Nat->Option Obj
 phi:Nat->Option fy
 top:Nat
def Env.cell(E:Env)(b o:Nat):Option Value :=
 match E.imm b with
 |some (.cells c _ _)=>c[o]?
 |_=>none
mutual
inductive Conc (E:Env):AV->Value->Prop
 |bad (v:Value):Conc E .bad v
 |un:Conc E .un undef
 |b (x:Bool):Conc E (.b x) (.bool x)
 |i (k:IntKind) (n:Int):Conc E (.i k n) (.int k n)
 |s (bs:ByteArray):Conc E (.s (bs.data.toList.map UInt8.toNat)) (.string bs)
 |p (r o:Nat) (B:fy) (h:E.phi r=some B):Conc E (.p r o) (.pointer (some ⟨B.b,o+B.d,none⟩))
 |pn:Conc E .pn (.pointer none)
 |gp (g:Nat):Conc E (.gp g) (.pointer (some ⟨g,0,none⟩))
 |rp (c:List AV) (b o:Nat) (vs:List Value) (h:∀ j v,vs[j]? = some v->E.cell b (o+j)=some v) (hc:aP E c vs):Conc E (.rp c) (.pointer (some ⟨b,o,none⟩))
 |slk (r o n z c:Nat) (a:Addr) (hn:n<=c) (h:c=0\/∃ B,E.phi r=some B/\a=⟨B.b,o+B.d,none⟩):Conc E (.sl r o n z (some c)) (.slice (some a) n c)
 |slu (r o n z c:Nat) (a:Addr) (hn:n<=c) (h:∃ B,E.phi r=some B/\(c=0\/a=⟨B.b,o+B.d,none⟩)/\o+B.d+c*z=B.n):Conc E (.sl r o n z none) (.slice (some a) n c)
 |sn:Conc E .sn (.slice none 0 0)
 |rs (c:List AV) (n z k:Nat) (b o:Nat) (vs:List Value) (hn:n<=k) (h:∀ j v,vs[j]? = some v->E.cell b (o+j)=some v) (hc:aP E c vs):Conc E (.rs c n z) (.slice (some ⟨b,o,none⟩) n k)
 |rs0 (c:List AV) (z:Nat) (a:Addr) (k:Nat):Conc E (.rs c 0 z) (.slice (some a) 0 k)
 |m (r:Nat) (B:fy) (h:E.phi r=some B):Conc E (.m r) (.map (some B.b))
 |mn:Conc E .mn (.map none)
 |f (fn:Fn) (x y:List AV) (vx vy:List Value) (hy':ou fn=true) (hx:aP E x vx) (hy:aP E y vy):Conc E (.f fn x y) (.func fn vx.toArray vy.toArray)
 |yi (r:Nat) (B:fy) (h:E.phi r=some B):Conc E (.f (.yield r) [] []) (.func (.yield B.b) #[] #[])
 |fn0:Conc E .fn0 .nilFunc
 |ifc (t:Nat) (v:AV) (u:Value) (h:Conc E v u):Conc E (.ifc t v) (.iface t u)
 |if0:Conc E .if0 .nilIface
 |ag (l:List AV) (vs:List Value) (h:aP E l vs):Conc E (.ag l) (.agg vs.toArray)
 |tu (l:List AV) (vs:List Value) (h:aP E l vs):Conc E (.tu l) (.tuple vs.toArray)
 |c (r:Nat) (B:fy) (h:E.phi r=some B):Conc E (.c r) (.chan (some B.b))
 |cn:Conc E .cn (.chan none)
inductive aP (E:Env):List AV->List Value->Prop
 |nil:aP E [] []
 |cons (v:AV) (l:List AV) (u:Value) (us:List Value) (h:Conc E v u) (t:aP E l us):aP E (v::l) (u::us)
end
structure Env.le(E F:Env):Prop where
 imm:∀ b o,E.imm b=some o->F.imm b=some o
 phi:∀ r B,E.phi r=some B->F.phi r=some B
theorem Env.le.refl(E:Env):E.le E:=⟨fun _ _ h=>h,fun _ _ h=>h⟩
theorem Env.le.trans{E F G:Env}(h:E.le F)(k:F.le G):E.le G:=⟨fun b o e=>k.imm b o (h.imm b o e),fun r B e=>k.phi r B (h.phi r B e)⟩
theorem Env.le.cell{E F:Env}(h:E.le F){b o:Nat}{v:Value}(e:E.cell b o=some v):F.cell b o=some v:=by
 unfold Env.cell at *;cases hb:E.imm b with
 |none=>grind
 |some x=>rw[h.imm b x hb];grind
mutual
theorem Conc.mono{E F:Env}(h:E.le F):∀ {v:AV}{u:Value},Conc E v u->Conc F v u
 |_,_,.bad v=>.bad v
 |_,_,.un=>.un
 |_,_,.b x=>.b x
 |_,_,.i k n=>.i k n
 |_,_,.s bs=>.s bs
 |_,_,.p r o B e=>.p r o B (h.phi r B e)
 |_,_,.pn=>.pn
 |_,_,.gp g=>.gp g
 |_,_,.rp c b o vs e hc=>.rp c b o vs (fun j v hv=>h.cell (e j v hv)) (aP.mono h hc)
 |_,_,.slk r o n z c a hn e=>.slk r o n z c a hn (e.imp id fun⟨B,h1,h2⟩=>⟨B,h.phi r B h1,h2⟩)
 |_,_,.slu r o n z c a hn e=>.slu r o n z c a hn (e.elim fun B hB=>⟨B,h.phi r B hB.1,hB.2⟩)
 |_,_,.sn=>.sn
 |_,_,.rs c n z k b o vs hn e hc=>.rs c n z k b o vs hn (fun j v hv=>h.cell (e j v hv)) (aP.mono h hc)
 |_,_,.rs0 c z a k=>.rs0 c z a k
 |_,_,.m r B e=>.m r B (h.phi r B e)
 |_,_,.mn=>.mn
 |_,_,.f fn x y vx vy hf hx hy=>.f fn x y vx vy hf (aP.mono h hx) (aP.mono h hy)
 |_,_,.yi r B e=>.yi r B (h.phi r B e)
 |_,_,.fn0=>.fn0
 |_,_,.ifc t v u e=>.ifc t v u (Conc.mono h e)
 |_,_,.if0=>.if0
 |_,_,.ag l vs e=>.ag l vs (aP.mono h e)
 |_,_,.tu l vs e=>.tu l vs (aP.mono h e)
 |_,_,.c r B e=>.c r B (h.phi r B e)
 |_,_,.cn=>.cn
theorem aP.mono{E F:Env}(h:E.le F):∀ {v:List AV}{u:List Value},aP E v u->aP F v u
 |_,_,.nil=>.nil
 |_,_,.cons v l u us e t=>.cons v l u us (Conc.mono h e) (aP.mono h t)
end
section
variable {E : Env}
theorem aP.length{l:List AV}{vs:List Value}(h:aP E l vs):l.length=vs.length:=by
 induction l generalizing vs with
 |nil=>cases h;rfl
 |cons v l ih=>cases h with|cons _ _ u us h t=>grind
theorem aP.get{l:List AV}(h:aP E l vs):∀ (j:Nat) (v:AV),l[j]? = some v->∃ u,vs[j]? = some u/\Conc E v u:=by
 induction l generalizing vs with
 |nil=>grind
 |cons x l ih =>
  cases h with
  |cons _ _ u us h t =>grind
theorem aP.append{a b:List AV}{y:List Value}(h:aP E a x)(k:aP E b y):aP E (a++b) (x++y):=by
 induction a generalizing x with
 |nil=>cases h;grind
 |cons v l ih=>cases h with|cons _ _ u us h t=>exact .cons _ _ _ _ h (ih t)
theorem aP.take{a:List AV}{x:List Value}(h:aP E a x)(n:Nat):aP E (a.take n) (x.take n):=by
 induction a generalizing x n with
 |nil=>cases h;simp;exact .nil
 |cons v l ih =>
  cases h with
  |cons _ _ u us h t =>
   cases n with
   |zero=>grind
   |succ n=>exact .cons _ _ _ _ h (ih t n)
theorem aP.drop{a:List AV}{x:List Value}(h:aP E a x)(n:Nat):aP E (a.drop n) (x.drop n):=by
 induction a generalizing x n with
 |nil=>cases h;simp;exact .nil
 |cons v l ih =>
  cases h with
  |cons _ _ u us h t =>
   cases n with
   |zero=>exact .cons _ _ _ _ h t
   |succ n=>grind
