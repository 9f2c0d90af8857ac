/- A part of the proof. -/
import Derived.Orders
import Derived.Laws.Sem
open Option renaming some->So,none->No
open Bool renaming true->Tt,false->Ff
open Nat renaming le_refl->Q0,lt_or_ge->Q3,lt_irrefl->Q9,le_trans->J1,lt_of_lt_of_le->J3,not_lt->J4,add_comm->J8
open List renaming getElem?_eq_none->Q1,ext_getElem?->Q5,length_take->Q6,pairwise_cons->Q7,length_append->Q8,getElem?_append->J5,getElem?_take->J6,getElem?_drop->J9
open Ne renaming symm->Q2
open Array renaming getElem?_eq_some_iff->Q4
noncomputable section
namespace Go.Ev
variable {H H' H'':Array Obj}{al al':List Nat}{b g k n o r x:Nat}{fz:Nat×Nat}{us vs y:List Value}{w:World}{α β:Type}
inductive Tr (α:Type) where
 |lf
 |nd (v:Option α) (l r:Tr α)
def qj(f:Nat):Nat->List Bool :=
 @Nat.rec (λ_=>Nat->List Bool) (λ_=>[])
  (λ_ go n=>@Bool.rec (λ_=>List Bool) (@Bool.rec (λ_=>List Bool) (Ff::go (Nat.sub (Nat.div n 2) 1)) (Tt::go (Nat.div n 2)) (Nat.beq (Nat.mod n 2) 1)) [] (Nat.beq n 0)) f
def B8(n:Nat):List Bool:=qj n n
def Tr.oF(p:List Bool):Tr α->Option α :=
 @List.rec Bool (λ_=>Tr α->Option α) (λt=>@Tr.rec α (λ_=>Option α) No (λv _ _ _ _=>v) t)
  (λb _ go t=>@Tr.rec α (λ_=>Bool->(Tr α->Option α)->Option α) (λ_ _=>No) (λ_ l r _ _ b go=>go (@Bool.rec (λ_=>Tr α) r l b)) t b go) p
def Tr.fS(p:List Bool):Option α->Tr α->Tr α :=
 @List.rec Bool (λ_=>Option α->Tr α->Tr α)
  (λv t=>@Tr.rec α (λ_=>Option α->Tr α) (λv=>.nd v .lf .lf) (λ_ l r _ _ v=>.nd v l r) t v)
  (λb _ go v t=>@Tr.rec α (λ_=>(Tr α->Tr α)->Bool->Tr α) (λgo b=>@Bool.rec (λ_=>Tr α) (.nd No .lf (go .lf)) (.nd No (go .lf) .lf) b)
   (λo l r _ _ go b=>@Bool.rec (λ_=>Tr α) (.nd o l (go r)) (.nd o (go l) r) b) t (go v) b) p
def Tr.get(t:Tr α)(n:Nat):Option α:=t.oF (B8 n)
def Tr.set(t:Tr α)(n:Nat)(v:Option α):Tr α:=Tr.fS (B8 n) v t
inductive AV where
 |bad
 |un
 |b (x:Bool)
 |i (k:IntKind) (n:Int)
 |s (l:List Nat)
 |p (r o:Nat)
 |pn
 |gp (g:Nat)
 |rp (c:List AV)
 |sl (r o n z:Nat) (c:Option Nat)
 |sn
 |rs (c:List AV) (n z:Nat)
 |m (r:Nat)
 |mn
 |f (fn:Fn) (first captured:List AV)
 |fn0
 |ifc (t:Nat) (v:AV)
 |if0
 |ag (l:List AV)
 |tu (l:List AV)
 |c (r:Nat)
 |cn
 deriving Inhabited
def AV.cells(v:AV):Option (List AV):=
 @AV.rec (λ_=>Option (List AV)) (λ_=>PUnit.{1}) No (So [.un]) (λx=>So [.b x]) (λk n=>So [.i k n]) (λl=>So [.s l]) (λr o=>So [.p r o]) (So [.pn]) (λg=>So [.gp g])
  (λc _=>So [.rp c]) (λr o n z c=>So [.sl r o n z c]) (So [.sn]) (λc n z _=>So [.rs c n z]) (λr=>So [.m r]) (So [.mn]) (λg x y _ _=>So [.f g x y]) (So [.fn0])
  (λt u _=>So [.ifc t u]) (So [.if0]) (λl _=>So l) (λl _=>So [.tu l]) (λr=>So [.c r]) (So [.cn]) ⟨⟩ (λ_ _ _ _=>⟨⟩) v
theorem AV.nD(v:AV):v.cells=match v with|.bad=>No|.ag l=>So l|v=>So [v]:=by cases v<;>rfl
inductive Row where
 |ce (l:List AV) (g:Nat)
 |mp (es:List (AV×AV×Nat)) (clock:Nat)
 |si (s:List Nat) (pos:Nat)
 |mi (m:Option Nat) (since:Nat) (seen:List Nat) (stepped:Nat)
 |lp (t:Tr AV) (nt:Nat) (ps:List Tmp) (assign body:Code)
 |mu (es:List (AV×AV))
 |ch (cap:Nat) (buf:List AV)
 |ty (t r0:Nat) (x:Bool)
structure St where
 rows:Tr Row
 live:Tr (List Nat)
 next:Nat
def St.get(st:St)(r:Nat):Option Row:=st.rows.get r
def St.put(st:St)(r:Nat)(w:Row):St:=⟨st.rows.set r (So w),st.live,st.next⟩
def St.new(st:St)(w:Row):St:=⟨st.rows.set st.next (So w),st.live,st.next+1⟩
def St.drop(st:St)(r:Nat):St:=⟨st.rows.set r No,st.live,st.next⟩
def St.aj(st:St)(l:List AV):St:=⟨st.rows.set st.next (So (.ce l st.next)),st.live.set st.next (So [st.next]),st.next+1⟩
def mem(r:Nat):List Nat->Bool
 |[]=>Ff
 |x::l=>(@Bool.rec (λ_=>_) (mem r l) Tt (Nat.beq x r))
def St.ce(st:St)(r:Nat):Option (List AV×Nat×List Nat):=
 match st.get r with
 |some (.ce l g)=>match st.live.get g with
  |some al=>(@Bool.rec (λ_=>_) No (So (l,g,al)) (mem r al))
  |none=>No
 |_=>No
def Kr(st:St)(r:Nat):Option (Nat×Bool):=
 match st.get (r+1)with
 |some (.ty t r0 x)=>@Bool.rec (λ_=>Option (Nat×Bool)) No (So (t,x)) (Nat.beq r0 r)
 |_=>No
def BY(st:St)(r t:Nat):Bool:=match Kr st r with
 |some (u,Tt)=>Nat.beq u t
 |_=>Ff
def nT:Fn->Bool
 |.yield _=>Ff
 |_=>Tt
def rV:Value->AV
 |.bool x=>.b x
 |.int k n=>.i k n
 |.string s=>.s (s.data.toList.map UInt8.toNat)
 |.pointer No=>.pn
 |.slice No a b=>@Bool.rec (λ_=>AV) .bad .sn (Nat.beq (a+b) 0)
 |.map No=>.mn
 |.chan No=>.cn
 |.nilFunc=>.fn0
 |.nilIface=>.if0
 |.func fn a b=>@Bool.rec (λ_=>AV) .bad (.f fn [] []) (Nat.beq (a.size+b.size) 0&&nT fn)
 |_=>.bad
def Ew:Value->AV
 |.agg cs=>.ag (cs.toList.map rV)
 |.tuple cs=>.tu (cs.toList.map rV)
 |.iface t v=>.ifc t (rV v)
 |.func fn first captured=>@Bool.rec (λ_=>AV) .bad (.f fn (first.toList.map rV) (captured.toList.map rV)) (nT fn)
 |v=>rV v
def ah(t:Tr AV)(x:Operand):AV :=
 @Operand.rec (λ_=>Tr AV->AV) (λx t=>match t.get x with|some v=>v|none=>.un) (λv _=>Ew v) (λg _=>.gp g) (λf _=>.f (.func f) [] []) x t
def lH:Int->Int->Bool
 |.ofNat a,.ofNat b=>Nat.blt a b
 |.ofNat _,.negSucc _=>Ff
 |.negSucc _,.ofNat _=>Tt
 |.negSucc a,.negSucc b=>Nat.blt b a
def oJ:Int->Int->Bool
 |.ofNat a,.ofNat b=>Nat.beq a b
 |.negSucc a,.negSucc b=>Nat.beq a b
 |_,_=>Ff
def vr:IntKind->Bool
 |.i64=>Tt
 |_=>Ff
def wr(k:IntKind)(n:Int):Int :=
 match n with
 |.ofNat m=>(@Bool.rec (λ_=>_) (k.wrap n) n (vr k&&Nat.ble m 9223372036854775807))
 |.negSucc m=>(@Bool.rec (λ_=>_) (k.wrap n) n (vr k&&Nat.ble m 9223372036854775807))
def tv(a b:IntKind):Bool:=decide (a=b)
def leq:List Nat->List Nat->Bool
 |[],[]=>Tt
 |a::x,b::y=>(@Bool.rec (λ_=>_) Ff (leq x y) (Nat.beq a b))
 |_,_=>Ff
def mT:List Nat->List Nat->Bool
 |_,[]=>Ff
 |[],_::_=>Tt
 |a::x,b::y=>(@Bool.rec (λ_=>_) ((@Bool.rec (λ_=>_) Ff (mT x y) (Nat.beq a b))) Tt (Nat.blt a b))
def yu(b:Int)(v:AV):Option AV:=(@Bool.rec (λ_=>_) (So v) No (oJ b 0))
def Il(op:BinOp)(k:IntKind)(a b:Int):Option AV :=
 @BinOp.rec (λ_=>IntKind->Int->Int->Option AV)
  (λk a b=>So (.i k (wr k (a+b))))
  (λk a b=>So (.i k (wr k (a-b))))
  (λk a b=>So (.i k (wr k (a*b))))
  (λk a b=>yu b (.i k (wr k (a.tdiv b))))
  (λk a b=>yu b (.i k (a.tmod b)))
  (λk a b=>So (.i k (k.wrap (BitVec.ofInt k.bits a &&& BitVec.ofInt k.bits b).toNat)))
  (λk a b=>So (.i k (k.wrap (BitVec.ofInt k.bits a ||| BitVec.ofInt k.bits b).toNat)))
  (λk a b=>So (.i k (k.wrap (BitVec.ofInt k.bits a ^^^ BitVec.ofInt k.bits b).toNat)))
  (λ_ _ _=>No) (λ_ _ _=>No)
  (λk a b=>So (.i k (k.wrap (BitVec.ofInt k.bits a &&& ~~~BitVec.ofInt k.bits b).toNat)))
  (λ_ a b=>So (.b (oJ a b)))
  (λ_ a b=>So (.b (!oJ a b)))
  (λ_ a b=>So (.b (lH a b)))
  (λ_ a b=>So (.b (!lH b a)))
  (λ_ a b=>So (.b (lH b a)))
  (λ_ a b=>So (.b (!lH a b))) op k a b
def RZ(op:BinOp)(x y:List Nat):Option AV :=
 match op with
 |.add=>(@Bool.rec (λ_=>_) No (So (.s (x++y))) (Nat.ble (x.length+y.length) 9223372036854775807))
 |.eql=>So (.b (leq x y))
 |.neq=>So (.b (!leq x y))
 |.lss=>So (.b (mT x y))
 |.leq=>So (.b (mT x y||leq x y))
 |.gtr=>So (.b !(mT x y||leq x y))
 |.geq=>So (.b !mT x y)
 |_=>No
def iu:AV->AV->Option Bool
 |.i k a,.i k' b=>@Bool.rec (λ_=>_) No (So (oJ a b)) (tv k k')
 |.s x,.s y=>So (leq x y)
 |_,_=>No
def AV.oy(v:AV):Option (IntKind×Int):=
 @AV.rec (λ_=>_) (λ_=>PUnit.{1}) No No (λ_=>No) (λk n=>So (k,n)) (λ_=>No) (λ_ _=>No) No (λ_=>No) (λ_ _=>No) (λ_ _ _ _ _=>No) No (λ_ _ _ _=>No) (λ_=>No) No (λ_ _ _ _ _=>No) No (λ_ _ _=>No) No (λ_ _=>No) (λ_ _=>No) (λ_=>No) No ⟨⟩ (λ_ _ _ _=>⟨⟩) v
theorem AV.CH{v:AV}{k:IntKind}{n:Int}(h:v.oy=So (k,n)):v=.i k n:=by cases v<;>first|(cases h;rfl)|cases h
def AV.nw(v:AV):Option (List Nat):=
 @AV.rec (λ_=>_) (λ_=>PUnit.{1}) No No (λ_=>No) (λ_ _=>No) (λl=>So l) (λ_ _=>No) No (λ_=>No) (λ_ _=>No) (λ_ _ _ _ _=>No) No (λ_ _ _ _=>No) (λ_=>No) No (λ_ _ _ _ _=>No) No (λ_ _ _=>No) No (λ_ _=>No) (λ_ _=>No) (λ_=>No) No ⟨⟩ (λ_ _ _ _=>⟨⟩) v
theorem AV.zX{v:AV}{l:List Nat}(h:v.nw=So l):v=.s l:=by cases v<;>first|(cases h;rfl)|cases h
def RC(k:IntKind)(a b:Int):Option AV:=(@Bool.rec (λ_=>_) (So (.i k (k.wrap (a*2 ^ (min b.toNat k.bits))))) No (lH b 0))
def RD(k:IntKind)(a b:Int):Option AV:=(@Bool.rec (λ_=>_) (So (.i k (a.fdiv (2 ^ (min b.toNat k.bits))))) No (lH b 0))
def BE(op:BinOp)(k:IntKind)(a:Int)(k':IntKind)(b:Int):Option AV:=(@Bool.rec (λ_=>_) No (Il op k a b) (tv k k'))
def AH(op:BinOp):IntKind->Int->IntKind->Int->Option AV->Option AV :=
 match op with
 |.shl=>λk a _ b _=>RC k a b
 |.shr=>λk a _ b _=>RD k a b
 |_=>λ_ _ _ _ r=>r
def GI(k:IntKind)(a:Int)(op:BinOp)(y:AV):Option AV :=
 match y.oy with
 |some (k',b)=>AH op k a k' b (BE op k a k' b)
 |none=>No
def LU(l:List Nat)(op:BinOp)(y:AV):Option AV :=
 match y.nw with
 |some l'=>RZ op l l'
 |none=>No
def AV.gH(v:AV):Option Bool :=
 @AV.rec (λ_=>Option Bool) (λ_=>PUnit.{1}) No No (λx=>So x) (λ_ _=>No) (λ_=>No) (λ_ _=>No) No (λ_=>No) (λ_ _=>No) (λ_ _ _ _ _=>No) No (λ_ _ _ _=>No)
  (λ_=>No) No (λ_ _ _ _ _=>No) No (λ_ _ _=>No) No (λ_ _=>No) (λ_ _=>No) (λ_=>No) No ⟨⟩ (λ_ _ _ _=>⟨⟩) v
theorem AV.xZ{v:AV}{x:Bool}(h:v.gH=So x):v=.b x:=by cases v<;>first|(cases h;rfl)|cases h
def unOp(op:UnOp)(x:AV):Option AV :=
 match op,x with
 |.neg,.i k n=>So (.i k (wr k (0-n)))
 |.xor,.i k n=>So (.i k (k.wrap (BitVec.ofInt k.bits (if k.signed then -1 else k.max) ^^^ BitVec.ofInt k.bits n).toNat))
 |.not,.b v=>So (.b !v)
 |_,_=>No
section
variable(P:Program)
def aq(t:TypeId):Nat:=match P.info? t with|some i=>i.size|none=>0
def jZ(t:TypeId):Nat:=match P.info? t with|some i=>i.bytes|none=>0
def cw(t:TypeId):Bool:=match P.underlying t with|some (.struct _)|some (.array _ _)=>Tt|_=>Ff
def aN(t:TypeId):Bool:=(P.info? t).isSome&&(P.underlying t).isSome
def zeroOf(t:TypeId):Option AV:=match P.info? t with|some {zero:=So v,.. }=>So (Ew v)|_=>No
def isStr(t:TypeId):Bool:=match P.underlying t with|some .string=>Tt|_=>Ff
def dO(t:TypeId):Option TypeId:=match P.underlying t with|some (.slice e)=>So e|_=>No
def bE(t:TypeId)(n:Nat):Option Nat:=match P.underlying t with
 |some (.struct fs)=>match fs[n]? with
  |some f=>@Bool.rec (λ_=>_) No (So f.offset) (aN P f.type&&Nat.blt 0 (aq P f.type))
  |none=>No
 |_=>No
end
def bR:AV->Bool
 |.bad|.un|.ag _|.tu _=>Ff
 |_=>Tt
def bH:List AV->Bool
 |[]=>Tt
 |v::l=>(@Bool.rec (λ_=>_) Ff (bH l) (bR v))
def takeN:Nat->List AV->Option (List AV)
 |0,_=>So []
 |_+1,[]=>No
 |n+1,v::l=>match takeN n l with
  |some r=>So (v::r)
  |none=>No
def cut(l:List AV)(o n:Nat):Option (List AV):=
 match o with
 |0=>takeN n l
 |o+1=>match l with
  |[]=>(@Bool.rec (λ_=>_) No (So []) (Nat.beq n 0))
  |_::l=>cut l o n
def over{α:Type}:List α->List α->List α
 |l,[]=>l
 |[],_=>[]
 |_::l,v::vs=>v::over l vs
def aW{α:Type}(l:List α)(o:Nat)(vs:List α):List α :=
 match o with
 |0=>over l vs
 |o+1=>match l with
  |[]=>[]
  |x::l=>x::aW l o vs
def rep{α:Type}(n:Nat)(l:List α):List α :=
 match n with
 |0=>[]
 |n+1=>l++rep n l
def rd(st:St)(r o n:Nat):Option (List AV):=
 match st.ce r with
 |some (l,_,_)=>cut l o n
 |none=>No
def wt(st:St)(r o:Nat)(vs:List AV):Option St :=
 match st.ce r with
 |some (l,g,_)=>
  (@Bool.rec (λ_=>_) No (So ⟨st.rows.set r (So (.ce (aW l o vs) g)),st.live.set g (So [r]),st.next⟩) (Nat.ble (o+vs.length) l.length&&bH vs))
 |none=>No
def AV.jL(v:AV):Option (Nat×Nat):=
 @AV.rec (λ_=>_) (λ_=>PUnit.{1}) No No (λ_=>No) (λ_ _=>No) (λ_=>No) (λr o=>So (r,o)) No (λ_=>No) (λ_ _=>No) (λ_ _ _ _ _=>No) No (λ_ _ _ _=>No) (λ_=>No) No (λ_ _ _ _ _=>No) No (λ_ _ _=>No) No (λ_ _=>No) (λ_ _=>No) (λ_=>No) No ⟨⟩ (λ_ _ _ _=>⟨⟩) v
theorem AV.wo{v:AV}(h:v.jL=So (r,o)):v=.p r o:=by cases v<;>first|(cases h;rfl)|cases h
def AV.x5(v:AV):Option (List AV):=
 @AV.rec (λ_=>_) (λ_=>PUnit.{1}) No No (λ_=>No) (λ_ _=>No) (λ_=>No) (λ_ _=>No) No (λ_=>No) (λc _=>So c) (λ_ _ _ _ _=>No) No (λ_ _ _ _=>No) (λ_=>No) No (λ_ _ _ _ _=>No) No (λ_ _ _=>No) No (λ_ _=>No) (λ_ _=>No) (λ_=>No) No ⟨⟩ (λ_ _ _ _=>⟨⟩) v
theorem AV.LM{v:AV}{c:List AV}(h:v.x5=So c):v=.rp c:=by cases v<;>first|(cases h;rfl)|cases h
def uA:Option (List AV)->Option AV
 |some l=>So (.ag l)
 |none=>No
def oneOf:Option (List AV)->Option AV
 |some [v]=>So v
 |_=>No
def loadAt(P:Program)(t:TypeId)(st:St)(a:AV):Option AV :=
 (@Bool.rec (λ_=>_) No (match a.jL with
  |some (r,o)=>(@Bool.rec (λ_=>_) (oneOf (rd st r o 1)) (uA (rd st r o (aq P t))) (cw P t))
  |none=>match a.x5 with
   |some c=>(@Bool.rec (λ_=>_) (oneOf (cut c 0 1)) (uA (cut c 0 (aq P t))) (cw P t))
   |none=>No) (aN P t))
def vO(P:Program)(t:TypeId)(st:St)(r o:Nat):Option (List AV)->Option St
 |some l=>(@Bool.rec (λ_=>_) No (wt st r o l) (aN P t&&Nat.beq l.length (aq P t)))
 |none=>No
def storeAt(P:Program)(t:TypeId)(st:St)(a v:AV):Option St :=
 match a.jL with
 |some (r,o)=>vO P t st r o v.cells
 |none=>No
def fill(place:Nat->Option (Nat×Nat))(cells:List AV):List (Nat×AV)->Option (List AV)
 |[]=>So cells
 |(i,v)::rest=>
  match place i,v.cells with
  |some (off,size),So l=>(@Bool.rec (λ_=>_) No (fill place (aW cells off l) rest) (Nat.beq l.length size&&Nat.ble (off+size) cells.length))
  |_,_=>No
def lenOf(v:AV):Option Nat :=
 @AV.rec (λ_=>_) (λ_=>PUnit.{1}) No No (λ_=>No) (λ_ _=>No) (λl=>So l.length) (λ_ _=>No) No (λ_=>No) (λ_ _=>No) (λ_ _ n _ _=>So n) (So 0) (λ_ n _ _=>So n) (λ_=>No) No (λ_ _ _ _ _=>No) No (λ_ _ _=>No) No (λ_ _=>No) (λ_ _=>No) (λ_=>No) No ⟨⟩ (λ_ _ _ _=>⟨⟩) v
def firstCells(st:St)(z n:Nat):AV->Option (List AV)
 |.sl r o _ _ _=>(@Bool.rec (λ_=>_) (rd st r o (n*z)) (So []) (Nat.beq n 0))
 |.sn=>(@Bool.rec (λ_=>_) No (So []) (Nat.beq n 0))
 |.rs c _ _=>cut c 0 (n*z)
 |.s l=>(@Bool.rec (λ_=>_) No (So ((l.take n).map λb:Nat=>AV.i .u8 (Int.ofNat b))) (Nat.beq z 1))
 |_=>No
def grow(st:St)(z n:Nat)(cs:List AV):AV×St :=
 (.sl st.next 0 n z No,st.aj cs)
def St.kill(st:St)(r:Nat):St :=
 match st.ce r with
 |some (_,g,_)=>⟨st.rows,st.live.set g (So []),st.next⟩
 |none=>st
def from_(r:Nat):List Nat->List Nat
 |[]=>[]
 |x::l=>(@Bool.rec (λ_=>_) (from_ r l) (x::l) (Nat.beq x r))
def yr(st:St)(r o len z n:Nat)(new:List AV):Option (AV×St):=
 match st.ce r with
 |some (l,g,al)=>
  match cut l o (len*z)with
  |some old=>
   So (.sl st.next 0 n z No,⟨st.rows.set st.next (So (.ce (old++new) g)),
    st.live.set g (So ((@Bool.rec (λ_=>_) [st.next] (st.next::from_ r al) (Nat.beq (o+len*z) l.length)))),st.next+1⟩)
  |none=>No
 |none=>No
def qe(st:St)(r o z:Nat):Nat :=
 match st.ce r with
 |some (l,_,_)=>(l.length-o) / z
 |none=>0
def vn(st:St)(r o len z n:Nat)(new:List AV)(fit:Bool):Option (AV×St):=
 @Bool.rec (λ_=>Option (AV×St)) (@Bool.rec (λ_=>Option (AV×St)) No (yr st r o len z n new) fit)
  (match wt st r (o+len*z) new with|some st=>So (.sl r o n z No,st)|none=>No) (Nat.ble n (qe st r o z))
def bt(P:Program)(e:TypeId):Option (List AV):=
 match zeroOf P e with
 |some z=>match z.cells with
  |some l=>(@Bool.rec (λ_=>_) No (So l) (aN P e&&Nat.beq l.length (aq P e)))
  |none=>No
 |none=>No
def fits(P:Program)(e need:Nat):Bool :=
 (bt P e).isSome&&Nat.ble 1 (jZ P e)&&Nat.ble ((2*need+2000)*jZ P e) 281474976710656
def tI(P:Program):List TypeId->Bool
 |[_]=>Tt
 |_::x::_=>match P.underlying x with
  |some (.int _)|none=>Ff
  |some _=>Tt
 |[]=>Ff
def append(P:Program)(st:St)(ts:List TypeId)(s x:AV):Option (AV×St):=
 match ts with
 |[]=>No
 |t::_=>
 match dO P t,lenOf x with
 |some e,So n=>
  match firstCells st (aq P e) n x with
  |none=>No
  |some new=>
   (@Bool.rec (λ_=>_) No (
    match s with
    |.sn=>(@Bool.rec (λ_=>_) ((@Bool.rec (λ_=>_) No (So (grow st (aq P e) n new)) (fits P e n))) (So (.sn,st)) (Nat.beq n 0))
    |.sl r o len z c=>
     (@Bool.rec (λ_=>_) No (
      (@Bool.rec (λ_=>_) (
      match c with
      |some c=>
       (@Bool.rec (λ_=>_) ((@Bool.rec (λ_=>_) No (match firstCells st z len (.sl r o len z (So c))with|some old=>So (grow st z (len+n) (old++new))|none=>No) (fits P e (len+n)))) (match wt st r (o+len*z) new with|some st=>So (.sl r o (len+n) z (So c),st)|none=>No) (Nat.ble (len+n) c))
      |none=>vn st r o len z (len+n) new (fits P e (len+n))) (So (.sl r o len z c,st)) (Nat.beq n 0))) (Nat.beq (aq P e) z))
    |.rs c len z=>(@Bool.rec (λ_=>_) No (So (.rs c len z,st)) (Nat.beq n 0))
    |_=>No) (tI P ts&&aN P e&&bH new))
 |_,_=>No
def Yu:Option (IntKind×Int)->Option Nat
 |some (_,.ofNat n)=>So n
 |_=>No
def gO(v:AV):Option Nat:=Yu v.oy
theorem IE{v:AV}(h:gO v=So n):∃k,v=.i k (.ofNat n):=by
 cases v<;>try (cases h)
 rename_i k m;cases m with
 |ofNat m=>cases h;grind
 |negSucc m=>cases h
def uH(P:Program)(t:TypeId):Option (Nat×Nat):=
 match P.underlying t with
 |some (.array n e)=>(@Bool.rec (λ_=>_) No (So (n,aq P e)) (aN P e))
 |_=>No
def dj(d:Nat):Option AV->Option Nat
 |none=>So d
 |some v=>gO v
def fM(len cap:Nat)(lo hi mx:Option AV):Option (Nat×Nat×Nat):=
 match dj 0 lo,dj len hi,dj cap mx with
 |some a,So b,So m=>(@Bool.rec (λ_=>_) No (So (a,b,m)) (Nat.ble a b&&Nat.ble b m&&Nat.ble m cap&&(mx.isNone||hi.isSome)))
 |_,_,_=>No
def oY(P:Program)(t z:Nat):Bool :=
 match dO P t with
 |some e=>aN P e&&Nat.beq (aq P e) z
 |none=>Ff
def slice(P:Program)(t:TypeId)(x:AV)(lo hi mx:Option AV):Option AV :=
 match x with
 |.s l=>
  match mx,fM l.length l.length lo hi No with
  |none,So (a,b,_)=>(@Bool.rec (λ_=>_) No (So (.s ((l.drop a).take (b-a)))) (isStr P t))
  |_,_=>No
 |.sn=>
  match dO P t,fM 0 0 lo hi mx with
  |some e,So _=>(@Bool.rec (λ_=>_) No (So .sn) (aN P e))
  |_,_=>No
 |.sl r o n z (So c)=>
  match fM n c lo hi mx with
  |some (a,b,m)=>(@Bool.rec (λ_=>_) No (So (.sl r (o+a*z) (b-a) z (So (m-a)))) (oY P t z))
  |none=>No
 |.sl r o n z No=>
  match fM n n lo hi mx with
  |some (a,b,m)=>(@Bool.rec (λ_=>_) No (So (.sl r (o+a*z) (b-a) z (@Bool.rec (λ_=>_) (So (m-a)) No mx.isNone))) (oY P t z))
  |none=>No
 |.rs c n z=>
  match fM n n lo hi mx with
  | some (a,b,m)=>(@Bool.rec (λ_=>_) No
    (@Bool.rec (λ_=>_) (@Bool.rec (λ_=>_) No (So (.sl 0 0 0 z (So 0))) (Nat.beq m a)) (So (.rs (c.drop (a*z)) (b-a) z)) mx.isNone) (oY P t z))
  |none=>No
 |.p r o=>
  match uH P t with
  |some (n,z)=>match fM n n lo hi mx with
   |some (a,b,m)=>So (.sl r (o+a*z) (b-a) z (So (m-a)))
   |none=>No
  |none=>No
 |_=>No
def Fy(P:Program)(st:St)(t:TypeId)(lo hi mx:Option AV):AV->Option AV
 |.sl r o n z No=>
  match st.ce r with
  |some (l,_,_)=>match fM n ((l.length-o) / z) lo hi mx with
   |some (a,b,m)=>(@Bool.rec (λ_=>_) No (So (.sl r (o+a*z) (b-a) z (@Bool.rec (λ_=>_) (So (m-a)) No mx.isNone))) (oY P t z))
   |none=>No
  |none=>No
 |_=>No
def gR(P:Program)(st:St)(t:TypeId)(x:AV)(lo hi mx:Option AV):Option AV :=
 match slice P t x lo hi mx with
 |some v=>So v
 |none=>Fy P st t lo hi mx x
def indexAddr(P:Program)(t:TypeId)(x ix:AV):Option AV :=
 match gO ix with
 |none=>No
 |some k=>
  @AV.rec (λ_=>Nat->Program->TypeId->Option AV) (λ_=>PUnit.{1}) (λ_ _ _=>No) (λ_ _ _=>No) (λ_ _ _ _=>No) (λ_ _ _ _ _=>No) (λ_ _ _ _=>No) (λr o k P t=>match uH P t with|some (n,z)=>(@Bool.rec (λ_=>_) No (So (.p r (o+k*z))) (Nat.blt k n))|none=>No) (λ_ _ _=>No) (λ_ _ _ _=>No) (λy0 _=>(λc k P t=>match uH P t with|some (n,z)=>(@Bool.rec (λ_=>_) No (So (.rp (c.drop (k*z)))) (Nat.blt k n))|none=>No) y0) (λr o n z _ k P t=>match dO P t with|some e=>(@Bool.rec (λ_=>_) No (So (.p r (o+k*z))) (Nat.blt k n&&aN P e&&Nat.beq (aq P e) z))|none=>No) (λ_ _ _=>No) (λy0 y1 y2 _=>(λc n z k P t=>match dO P t with|some e=>(@Bool.rec (λ_=>_) No (So (.rp (c.drop (k*z)))) (Nat.blt k n&&aN P e&&Nat.beq (aq P e) z))|none=>No) y0 y1 y2) (λ_ _ _ _=>No) (λ_ _ _=>No) (λ_ _ _ _ _ _ _ _=>No) (λ_ _ _=>No) (λ_ _ _ _ _ _=>No) (λ_ _ _=>No) (λ_ _ _ _ _=>No) (λ_ _ _ _ _=>No) (λ_ _ _ _=>No) (λ_ _ _=>No) ⟨⟩ (λ_ _ _ _=>⟨⟩) x k P t
def part(P:Program)(t:TypeId)(cs:List AV)(off:Nat):Option AV :=
 (@Bool.rec (λ_=>_) No ((@Bool.rec (λ_=>_) (oneOf (cut cs off 1)) (uA (cut cs off (aq P t))) (cw P t))) (aN P t))
def Hz(x y:AV):Option Bool:=match x.gH,y.gH with|some a,So b=>So (a==b)|_,_=>No
def HC(x y:AV):Option Bool:=match x.oy,y.oy with|some (k,a),So (k',b)=>(@Bool.rec (λ_=>_) No (So (oJ a b)) (tv k k'))|_,_=>No
def eqStr(x y:AV):Option Bool:=match x.nw,y.nw with|some a,So b=>So (leq a b)|_,_=>No
def AV.tz(v:AV):Option Bool :=
 @AV.rec (λ_=>Option Bool) (λ_=>PUnit.{1}) No No (λ_=>No) (λ_ _=>No) (λ_=>No) (λ_ _=>(So Ff)) (So Tt) (λ_=>(So Ff)) (λ_ _=>(So Ff)) (λ_ _ _ _ _=>No) No (λ_ _ _ _=>No) (λ_=>No) No (λ_ _ _ _ _=>No) No (λ_ _ _=>No) No (λ_ _=>No) (λ_ _=>No) (λ_=>No) No ⟨⟩ (λ_ _ _ _=>⟨⟩) v
def AV.yE(v:AV):Option Bool :=
 @AV.rec (λ_=>Option Bool) (λ_=>PUnit.{1}) No No (λ_=>No) (λ_ _=>No) (λ_=>No) (λ_ _=>No) No (λ_=>No) (λ_ _=>No) (λ_ _ _ _ _=>(So Ff)) (So Tt) (λ_ _ _ _=>(So Ff)) (λ_=>No) No (λ_ _ _ _ _=>No) No (λ_ _ _=>No) No (λ_ _=>No) (λ_ _=>No) (λ_=>No) No ⟨⟩ (λ_ _ _ _=>⟨⟩) v
def AV.yD(v:AV):Option Bool :=
 @AV.rec (λ_=>Option Bool) (λ_=>PUnit.{1}) No No (λ_=>No) (λ_ _=>No) (λ_=>No) (λ_ _=>No) No (λ_=>No) (λ_ _=>No) (λ_ _ _ _ _=>No) No (λ_ _ _ _=>No) (λ_=>(So Ff)) (So Tt) (λ_ _ _ _ _=>No) No (λ_ _ _=>No) No (λ_ _=>No) (λ_ _=>No) (λ_=>No) No ⟨⟩ (λ_ _ _ _=>⟨⟩) v
def AV.El(v:AV):Option Bool :=
 @AV.rec (λ_=>Option Bool) (λ_=>PUnit.{1}) No No (λ_=>No) (λ_ _=>No) (λ_=>No) (λ_ _=>No) No (λ_=>No) (λ_ _=>No) (λ_ _ _ _ _=>No) No (λ_ _ _ _=>No) (λ_=>No) No (λ_ _ _ _ _=>(So Ff)) (So Tt) (λ_ _ _=>No) No (λ_ _=>No) (λ_ _=>No) (λ_=>No) No ⟨⟩ (λ_ _ _ _=>⟨⟩) v
def AV.En(v:AV):Option Bool :=
 @AV.rec (λ_=>Option Bool) (λ_=>PUnit.{1}) No No (λ_=>No) (λ_ _=>No) (λ_=>No) (λ_ _=>No) No (λ_=>No) (λ_ _=>No) (λ_ _ _ _ _=>No) No (λ_ _ _ _=>No) (λ_=>No) No (λ_ _ _ _ _=>No) No (λ_ _ _=>(So Ff)) (So Tt) (λ_ _=>No) (λ_ _=>No) (λ_=>No) No ⟨⟩ (λ_ _ _ _=>⟨⟩) v
def AV.II:AV->Option Bool
 |.c _=>So Ff
 |.cn=>So Tt
 |_=>No
def lB:Option Bool->Option Bool->Option Bool
 |some Tt,So b=>So b
 |some Ff,So Tt=>So Ff
 |_,_=>No
def HD(P:Program)(e:TypeId)(x y:AV):Option Bool :=
 match x.jL,y.jL with
 |some (r,o),So (r',o')=>(@Bool.rec (λ_=>_) No (So (Nat.beq o o')) (Nat.beq r r'&&aN P e&&Nat.blt 0 (aq P e)))
 |_,_=>No
def orElse(a b:Option Bool):Option Bool :=
 match a with
 |some v=>So v
 |none=>b
def gK(P:Program)(t:TypeId)(x y:AV):Option Bool :=
 match P.underlying t with
 |some .bool=>Hz x y
 |some (.int _)=>HC x y
 |some .string=>eqStr x y
 |some (.pointer e)=>orElse (lB x.tz y.tz) (HD P e x y)
 |some (.slice _)=>lB x.yE y.yE
 |some (.map _ _)=>lB x.yD y.yD
 |some (.func _ _ _)=>lB x.El y.El
 |some (.interface _)=>lB x.En y.En
 |_=>No
def te(P:Program)(xs ys:List AV):List Field->Option Bool
 |[]=>So Tt
 |f::fs=>(@Bool.rec (λ_=>_) (match part P f.type xs f.offset,part P f.type ys f.offset with
  |some a,So b=>match gK P f.type a b with
   |some Tt=>te P xs ys fs
   |r=>r
  |_,_=>No) No (f.name == "_"))
def Dj(P:Program)(t:TypeId)(xs ys:List AV):Option Bool :=
 match P.underlying t with
 |some (.struct fs)=>(@Bool.rec (λ_=>_) No (te P xs ys fs.toList) (!P.stoodInHeld t&&!P.eqGuardType P.depth t))
 |_=>No
def isChan(P:Program)(t:TypeId):Bool:=match P.underlying t with|some (.chan _ _)=>Tt|_=>Ff
def Dk(P:Program)(t:TypeId)(x y:AV):Option Bool:=@Bool.rec (λ_=>Option Bool) No (lB x.II y.II) (isChan P t)
def lC(P:Program)(t:TypeId)(c:Bool):AV->AV->Option Bool
 |.ag xs,.ag ys=>Dj P t xs ys
 |.if0,.if0=>(@Bool.rec (λ_=>_) No (gK P t .if0 .if0) c)
 |x,y=>orElse (gK P t x y) (Dk P t x y)
def kc(P:Program)(t:TypeId)(c:Bool)(op:BinOp)(x y:AV):Option AV :=
 match op with
 |.eql=>match lC P t c x y with|some v=>So (.b v)|none=>No
 |.neq=>match lC P t c x y with|some v=>So (.b !v)|none=>No
 |_=>No
def binOp(P:Program)(t:TypeId)(c:Bool)(op:BinOp)(x y:AV):Option AV :=
 match x.oy with
 |some (k,a)=>GI k a op y
 |none=>match x.nw with
  |some l=>LU l op y
  |none=>kc P t c op x y
def CR(k:Nat)(l:List Nat):Option AV:=match l.drop k with|c::_=>So (.i .u8 (Int.ofNat c))|[]=>No
def partAt(P:Program)(t:TypeId)(k:Nat)(cs:List AV):Option AV :=
 match P.underlying t with
 |some (.array n e)=>(@Bool.rec (λ_=>_) No (part P e cs (k*aq P e)) (Nat.blt k n))
 |_=>No
def index(P:Program)(t:TypeId)(x ix:AV):Option AV :=
 match gO ix with
 |none=>No
 |some k=>match x.nw with
  |some l=>(@Bool.rec (λ_=>_) No (CR k l) (isStr P t))
  |none=>match x with
   |.ag cs=>partAt P t k cs
   |_=>No
def find(k:AV):List (AV×AV×Nat)->Nat->Option (Option (Nat×AV))
 |[],_=>So No
 |(x,v,_)::es,n=>
  match iu k x with
  |some Tt=>So (So (n,v))
  |some Ff=>find k es (n+1)
  |none=>No
def lE(k:AV):List (AV×AV)->Option (Option AV)
 |[]=>So No
 |(x,v)::es=>
  match iu k x with
  |some Tt=>match lE k es with|some No=>So (So v)|_=>No
  |some Ff=>lE k es
  |none=>No
def agb(P:Program)(t:TypeId):Bool :=
 match P.underlying t with
 |some (.map k _)=>match P.underlying k with
  |some (.int _)|some .string=>Tt
  |_=>Ff
 |_=>Ff
def ko(P:Program)(t:TypeId)(k:AV):Bool :=
 match P.underlying t with
 |some (.map kt _)=>match P.underlying kt,k with
  |some (.int _),.i _ _=>Tt
  |some .string,.s _=>Tt
  |_,_=>Ff
 |_=>Ff
def lookup(P:Program)(t:TypeId)(st:St)(x k:AV)(ok:Bool):Option AV :=
 match P.underlying t with
 |some (.map _ e)=>
  match zeroOf P e with
  |none=>No
  |some z=>
   let back (v:AV) (there:Bool):AV:=cond ok (.tu [v,.b there]) v
   (@Bool.rec (λ_=>_) No (
    match x with
    |.mn=>So (back z Ff)
    |.m r=>match st.get r with
     |some (.mp es _)=>match find k es 0 with
      |some (So (_,v))=>So (back v Tt)
      |some No=>So (back z Ff)
      |none=>No
     |some (.mu es)=>match lE k es with
      |some (So v)=>So (back v Tt)
      |some No=>So (back z Ff)
      |none=>No
     |_=>No
    |_=>No) (ko P t k))
 |_=>No
def mo:List (AV×AV×Nat)->Nat->AV->List (AV×AV×Nat)
 |[],_,_=>[]
 |(k,_,b)::es,0,v=>(k,v,b)::es
 |e::es,n+1,v=>e::mo es n v
def mapUpdate(P:Program)(t:TypeId)(st:St)(x k v:AV):Option St :=
 (@Bool.rec (λ_=>_) No (
  match x with
  |.m r=>match st.get r with
   |some (.mp es clock)=>match find k es 0 with
    |some (So (i,_))=>So (st.put r (.mp (mo es i v) clock))
    |some No=>So (st.put r (.mp (es++[(k,v,clock)]) (clock+1)))
    |none=>No
   |_=>No
  |_=>No) (ko P t k))
inductive Out where
 |nx (t:Tr AV) (st:St)
 |ex (id:Nat) (t:Tr AV) (st:St)
 |rt (t:Tr AV) (st:St)
 |no
structure Self where
 call:FuncId->List AV->St->Option (AV×St)
 code:Nat->Code->Tr AV->St->Out
 dcall:FuncId->List AV->St->Option (AV×St)
abbrev aD:=Option (AV×St)
abbrev ff:=Program->Self->Tr AV->St->aD
def aO{α β:Type}(f:α->Option β):List α->Option (List β)
 |[]=>So []
 |a::l=>match f a with
  |some b=>match aO f l with|some r=>So (b::r)|none=>No
  |none=>No
def cX(st:St):Option AV->aD
 |some v=>So (v,st)
 |none=>No
def done:Option St->aD
 |some st=>So (.un,st)
 |none=>No
def alloc(st:St)(cells:List AV):AV×St:=(.p st.next 0,st.aj cells)
def args(t:Tr AV)(l:List Operand):List AV:=l.map (ah t)
def upto(c:Nat):List Nat->Nat->Option Nat
 |[],_=>No
 |x::l,n=>(@Bool.rec (λ_=>_) (upto c l (n+1)) (So n) (Nat.beq x c))
abbrev qt:=Program->St->List TypeId->List AV->aD
def int64(st:St):Option Nat->aD
 |some n=>So (.i .i64 (Int.ofNat n),st)
 |none=>No
def kO:AV->Bool
 |.s _=>Tt
 |_=>Ff
def qQ(P:Program)(st:St)(ts:List TypeId)(v:AV):aD :=
 match ts with
 |t::_=>match P.underlying t with
  |some .string=>@Bool.rec (λ_=>aD) No (int64 st (lenOf v)) (kO v)
  |some (.slice _)=>@Bool.rec (λ_=>aD) (int64 st (lenOf v)) No (kO v)
  |_=>No
 |[]=>No
def Ou(P:Program)(x:TypeId):Bool:=match P.underlying x with|some (.int _)=>Tt|_=>Ff
def Gz(P:Program)(st:St)(e n:Nat):Option (List AV)->aD
 |some l=>@Bool.rec (λ_=>aD) No (So (.sl st.next 0 n (aq P e) No,st.aj (rep n l))) (fits P e n)
 |none=>No
def GA(P:Program)(st:St)(x n:Nat):Option TypeId->aD
 |some e=>@Bool.rec (λ_=>aD) No (@Bool.rec (λ_=>aD) (Gz P st e n (bt P e)) (So (.sn,st)) (Nat.beq n 0)) (Ou P x&&aN P e&&Nat.ble n 281474976710656)
 |none=>No
def CC(P:Program)(st:St)(n:Nat):List TypeId->aD
 |t::x::_=>GA P st x n (dO P t)
 |_=>No
def DX(P:Program)(e:TypeId):Bool:=match P.underlying e with|some (.int .u8)=>Tt|_=>Ff
def Su(P:Program)(e:Nat):Option Nat:=@Bool.rec (λ_=>Option Nat) No (So e) (DX P e)
def FI(P:Program):List TypeId->Option Nat
 |t::_=>match dO P t with
  |some e=>Su P e
  |none=>No
 |[]=>No
def ED(st:St)(e:Nat):AV->Bool
 |.sn=>Tt
 |.sl r o _ _ _=>BY st r e&&Nat.beq o 0
 |_=>Ff
def Gp(e:Nat)(ok:Bool):aD->aD
 |some (.sl r o n z c,st)=>@Bool.rec (λ_=>aD) (So (.sl r o n z c,st)) (So (.sl r o n z c,st.new (.ty e r Tt))) (ok&&Nat.beq (r+1) st.next)
 |r=>r
def pH(P:Program)(st:St)(ts:List TypeId)(s:AV)(r:aD):aD:=match FI P ts with
 |some e=>Gp e (ED st e s) r
 |none=>r
def wj(P:Program)(st:St)(ts:List TypeId)(s x:AV):Option Nat->aD
 |some n=>match s with
  |.sn=>CC P st n ts
  |_=>No
 |none=>pH P st ts s (append P st ts s x)
def fD:qt:=λP st ts az=>match az with
 |[s,x]=>wj P st ts s x (gO x)
 |_=>No
def cP:qt:=λP st ts az=>match az with
 |[x]=>qQ P st ts x
 |_=>No
def CW(st:St):AV->aD
 |.sl _ _ _ _ (So c)=>So (.i .i64 (Int.ofNat c),st)
 |.sn=>So (.i .i64 0,st)
 |_=>No
def GH:qt:=λP st ts az=>match ts,az with
 |t::_,[x]=>match dO P t with
  |some _=>CW st x
  |none=>No
 |_,_=>No
def Ho(st:St)(e z m:Nat)(r o n:Nat)(x:AV):aD :=
 match firstCells st e (min n m) x with
 |some l=>(@Bool.rec (λ_=>_) No (match wt st r o l with|some st=>So (.i .i64 (Int.ofNat (min n m)),st)|none=>No) (Nat.beq z e))
 |none=>No
def copyV(st:St)(z n:Nat)(x:AV):AV->aD
 |.sl r o m z' _=>Ho st z z' m r o n x
 |.sn=>So (.i .i64 0,st)
 |_=>No
def x6:qt:=λP st ts az=>match ts,az with
 |t::_,[d,x]=>match dO P t,lenOf x with
  |some e,So n=>@Bool.rec (λ_=>aD) No (copyV st (aq P e) n x d) (aN P e)
  |_,_=>No
 |_,_=>No
def EC:Option St->aD
 |some st=>So (.tu [],st)
 |none=>No
def x9(st:St)(r o n:Nat):Option (List AV)->aD
 |some l=>EC (wt st r o (rep n l))
 |none=>No
def Hf(P:Program)(st:St)(e:TypeId):AV->aD
 |.sl r o n _ _=>@Bool.rec (λ_=>aD) (x9 st r o n (bt P e)) (So (.tu [],st)) (Nat.beq n 0)
 |.sn=>So (.tu [],st)
 |_=>No
def uI:qt:=λP st ts az=>match ts,az with
 |t::_,[x]=>match dO P t with
  |some e=>Hf P st e x
  |none=>No
 |_,_=>No
def x7:qt:=λ_ st _ az=>match az with
 |[.i k a,.i _ b]=>So (.i k ((@Bool.rec (λ_=>_) a b (lH a b))),st)
 |_=>No
def byteOf:AV->Option Nat
 |.i .u8 (.ofNat n)=>@Bool.rec (λ_=>Option Nat) No (So n) (Nat.blt n 256)
 |_=>No
def strOf(st:St):Option (List AV)->aD
 |some l=>match aO byteOf l with
  |some bs=>So (.s bs,st)
  |none=>No
 |none=>No
def Ur:qt:=λ_ _ _ _=>No
def CI:qt:=λ_ st _ az=>match az with
 |[.sl r o n _ _]=>@Bool.rec (λ_=>aD) No (So (.p r o,st)) (Nat.blt 0 n)
 |[.sn]=>So (.pn,st)
 |_=>No
def JY(st:St)(r:Nat):Option (List AV)->aD
 |some l=>match aO byteOf l with
  |some bs=>So (.s bs,st.kill r)
  |none=>No
 |none=>No
def Kt(P:Program)(st:St)(pt:TypeId)(r n:Nat):aD:=match P.underlying pt with
 |some (.pointer e)=>@Bool.rec (λ_=>aD) No (JY st r (rd st r 0 n)) (BY st r e&&(Nat.beq (aq P e) 1&&Nat.ble n 9223372036854775807))
 |_=>No
def BZ(P:Program)(st:St)(pt:TypeId)(n:Nat):AV->aD
 |.p r o=>@Bool.rec (λ_=>aD) (@Bool.rec (λ_=>aD) No (Kt P st pt r n) (Nat.beq o 0)) (So (.s [],st)) (Nat.beq n 0)
 |.pn=>@Bool.rec (λ_=>aD) No (So (.s [],st)) (Nat.beq n 0)
 |_=>No
def CJ:qt:=λP st ts az=>match ts,az with
 |[pt,_],[p,.i .i64 (.ofNat n)]=>BZ P st pt n p
 |_,_=>No
def wy:Builtin->qt
 |.append=>fD
 |.len=>cP
 |.cap=>GH
 |.copy=>x6
 |.clear=>uI
 |.max=>x7
 |.unsafeSliceData=>CI
 |.unsafeString=>CJ
 |_=>Ur
def CT(P:Program)(S:Self)(st:St)(fn:Func)(f:FuncId)(az:List AV):aD :=
 match fn.body with
 |some _=>S.call f az st
 |none=>No
def pP(P:Program)(S:Self)(f:FuncId)(az:List AV)(st:St):aD :=
 match P.funcs[f]? with
 |some fn=>CT P S st fn f az
 |none=>No
def HI(st:St)(c:Nat):Option Nat->aD
 |some n=>So (.i .i64 (Int.ofNat n),st)
 |none=>So (.i .i64 (-1),st)
def Dr(st:St):List AV->aD
 |[.s l,.i .u8 (.ofNat c)]=>@Bool.rec (λ_=>aD) No (HI st c (upto c l 0)) (Nat.blt c 256)
 |_=>No
def HJ(st:St):List AV->aD
 |[x]=>So (x,st)
 |_=>No
def acw(e n:Nat)(st:St):aD:=So (.sl st.next 0 n 1 No,(st.aj (rep n [.bad])).new (.ty e st.next Tt))
def WG(P:Program)(st:St)(e n:Nat):aD:=@Bool.rec (λ_=>aD) No (acw e n st) (Nat.beq (aq P e) 1&&Nat.ble n 1048576)
def HH(P:Program)(st:St)(t n:Nat):aD:=match P.underlying t with
 |some (.slice e)=>WG P st e n
 |_=>No
def Dq(P:Program)(fn:Func)(st:St):List AV->aD
 |[.i .i64 (.ofNat n)]=>match fn.resultTypes.toList with|[t]=>HH P st t n|_=>No
 |_=>No
def WD(P:Program)(fn:Func)(st:St)(az:List AV):aD :=
 @Bool.rec (λ_=>aD) No (Dq P fn st az) (fn.name == "internal/bytealg.MakeNoZero"&&fn.origin == "")
def Ni(P:Program)(fn:Func)(st:St)(az:List AV):aD :=
 @Bool.rec (λ_=>aD) (WD P fn st az) (HJ st az) (fn.name == "internal/abi.NoEscape"&&fn.origin == "")
def Dp(P:Program)(fn:Func)(st:St)(az:List AV):aD :=
 @Bool.rec (λ_=>aD) (Ni P fn st az) (Dr st az) (fn.name == "internal/bytealg.IndexByteString"&&fn.origin == "")
def CU(P:Program)(S:Self)(st:St)(fn:Func)(f:FuncId)(az:List AV):aD :=
 match fn.body with
 |some _=>S.call f az st
 |none=>Dp P fn st az
def pN(P:Program)(S:Self)(f:FuncId)(az:List AV)(st:St):aD :=
 match P.funcs[f]? with
 |some fn=>CU P S st fn f az
 |none=>No
def Fo(nt:Nat):List Tmp->List AV->Tr AV->Option (Tr AV)
 |[],[],t=>So t
 |p::ps,v::vs,t=>(@Bool.rec (λ_=>_) No (Fo nt ps vs (t.set p (So v))) (Nat.blt p nt))
 |_,_,_=>No
def Fg(l:Nat)(row:Row):Out->aD
 |.nx _ st=>So (.b Tt,st.put l row)
 |_=>No
def JG(S:Self)(nt:Nat)(b:Code)(l:Nat)(row:Row):Out->aD
 |.nx t st=>Fg l row (S.code nt b t st)
 |_=>No
def round(S:Self)(l:Nat)(az:List AV)(st:St):aD :=
 match st.get l with
 |some (.lp t nt ps a b)=>match Fo nt ps az t with
  |some t'=>JG S nt b l (.lp t nt ps a b) (S.code nt a t' (st.drop l))
  |none=>No
 |_=>No
def P7(x:Operand):ff:=λ_ _ t st=>So (ah t x,st)
def rJ(a b:AV)(st:St):Option Bool->aD
 |some Tt=>So (a,st)
 |some Ff=>So (b,st)
 |none=>No
def aaz(c a b:Operand):ff:=λ_ _ t st=>rJ (ah t a) (ah t b) st (ah t c).gH
def lh(st:St):Option (List AV)->aD
 |some l=>So (alloc st l)
 |none=>No
def aak(e:TypeId):ff:=λP _ _ st=>lh st (bt P e)
def aam(x:Operand):ff:=λ_ _ t st=>lh st (ah t x).cells
def eB(t:Tr AV)(l:List (Nat×Operand)):List (Nat×AV):=l.map λp=>(p.1,ah t p.2)
def gP(P:Program)(fs:Array Field)(n:Nat):Option (Nat×Nat):=match fs[n]? with|some f=>So (f.offset,aq P f.type)|none=>No
def nV(z n:Nat):Option (Nat×Nat):=So (n*z,z)
def Cy(st:St):Option (List AV)->aD
 |some l=>So (.ag l,st)
 |none=>No
def eC(P:Program)(t:TypeId):Bool:=match P.underlying t with
 |some (.struct fs)=>fs.toList.all λf=>aN P f.type
 |some (.array _ e)=>aN P e
 |_=>Ff
def jc(st:St)(place:Nat->Option (Nat×Nat))(l:List (Nat×AV)):Option (List AV)->aD
 |some z=>Cy st (fill place z l)
 |none=>No
def cI(P:Program)(ty:TypeId)(vs:List (Nat×AV))(st:St):aD:=match P.underlying ty with
 |some (.struct fs)=>jc st (gP P fs) vs (bt P ty)
 |some (.array _ e)=>jc st (nV (aq P e)) vs (bt P ty)
 |_=>No
def P5(ty:TypeId)(parts:Array (Nat×Operand)):ff:=λP _ t st=>@Bool.rec (λ_=>aD) No (cI P ty (eB t parts.toList) st) (eC P ty)
def yC(st:St)(n z:Nat):Option (List AV)->aD
 |some l=>So (.sl st.next 0 n z (So n),st.aj l)
 |none=>No
def oT(ty:TypeId)(len:Nat)(parts:Array (Nat×Operand)):ff:=λP _ t st=>match dO P ty with
 |none=>No
 |some e=>match bt P e with
  |none=>No
  |some z=>(@Bool.rec (λ_=>_) No (yC st len (aq P e) (fill (nV (aq P e)) (rep len z) (eB t parts.toList))) (Nat.ble (len*aq P e) 16777216))
def aau(ty:TypeId)(a:Operand):ff:=λP _ t st=>cX st (loadAt P ty st (ah t a))
def aaC(ty:TypeId)(a x:Operand):ff:=λP _ t st=>done (storeAt P ty st (ah t a) (ah t x))
def DD(g:Fn)(x y:List AV)(st:St):aD :=
 match g with
 |.func n=>So (.f (.func n) x y,st)
 |.yield n=>So (.f (.yield n) x y,st)
 |_=>No
def notNil(st:St)(v:AV):aD :=
 @AV.rec (λ_=>_) (λ_=>PUnit.{1}) (λ_=>No) (λ_=>No) (λ_ _=>No) (λ_ _ _=>No) (λ_ _=>No) (λr o st=>So (.p r o,st)) (λ_=>No) (λg st=>So (.gp g,st)) (λc _ st=>So (.rp c,st)) (λ_ _ _ _ _ _=>No) (λ_=>No) (λ_ _ _ _ _=>No) (λ_ _=>No) (λ_=>No) (λg x y _ _ st=>DD g x y st) (λ_=>No) (λ_ _ _ _=>No) (λ_=>No) (λ_ _ _=>No) (λ_ _ _=>No) (λ_ _=>No) (λ_=>No) ⟨⟩ (λ_ _ _ _=>⟨⟩) v st
theorem PO(st:St)(v:AV):notNil st v=match v with|.p r o=>So (.p r o,st)|.gp g=>So (.gp g,st)|.rp c=>So (.rp c,st)|.f g x y=>DD g x y st|_=>none:=by cases v<;>rfl
def aay(x:Operand):ff:=λ_ _ t st=>notNil st (ah t x)
def kh:Operand->Bool
 |.const _=>Tt
 |_=>Ff
def aal(op:BinOp)(ty:TypeId)(x y:Operand):ff:=λP _ t st=>cX st (binOp P ty (kh x||kh y) op (ah t x) (ah t y))
def aaD(op:UnOp)(x:Operand):ff:=λ_ _ t st=>cX st (unOp op (ah t x))
def CS(st:St)(x:AV):aD:=match x with
 |.sn=>So (.s [],st)
 |x=>match lenOf x with
  |some n=>strOf st (firstCells st 1 n x)
  |none=>No
def Gq(st:St)(r:Nat):Bool:=match st.ce r with|some _=>Tt|none=>Ff
def Da(P:Program)(st:St)(src dst e:TypeId):AV->aD
 |.sl r o n z (So c)=>@Bool.rec (λ_=>aD) No (So (.sl r o n z (So c),st)) (Nat.beq src dst&&(DX P e&&(Nat.blt 0 c&&Gq st r)))
 |_=>No
def Ez(st:St)(r o:Nat):Bool:=match st.ce r with|some (l,_,_)=>Nat.blt o l.length|none=>Ff
def Hm(P:Program)(st:St)(t r o:Nat):aD:=@Bool.rec (λ_=>aD) No (So (.p r o,st)) (aN P t&&(Nat.blt 0 (aq P t)&&Ez st r o))
def Hl(P:Program)(st:St)(u r o:Nat):aD:=@Bool.rec (λ_=>aD) No (So (.p r o,st)) (aN P u&&(Nat.beq o 0&&(BY st r u&&(Nat.blt 0 (aq P u)&&Ez st r (Nat.sub (aq P u) 1)))))
def conv(P:Program)(st:St)(src dst:TypeId)(x:AV):aD:=match P.underlying src,P.underlying dst,x with
 |some _,So (.int k),.i _ n=>So (.i k (wr k n),st)
 |some _,So .string,.s l=>So (.s l,st)
 |some _,So .string,.i _ n=>(@Bool.rec (λ_=>_) No (So (.s [n.toNat],st)) (lH n 128&&!lH n 0))
 |some (.slice e),So .string,x=>match P.underlying e with
  |some (.int .u8)=>CS st x
  |_=>No
 |some .string,So (.slice e),.s l=>match P.underlying e with
  |some (.int .u8)=>So (grow st 1 l.length (l.map λb=>.i .u8 (Int.ofNat b)))
  |_=>No
 |some (.slice _),So (.slice e),x=>Da P st src dst e x
 |some (.pointer t),So .unsafePointer,.p r o=>Hm P st t r o
 |some .unsafePointer,So (.pointer u),.p r o=>Hl P st u r o
 |_,_,_=>No
def aan(src dst:TypeId)(x:Operand):ff:=λP _ t st=>conv P st src dst (ah t x)
def Bf(fn:Fn)(first captured:Array Operand):ff:=λ_ _ t st=>@Bool.rec (λ_=>aD) No (So (.f fn (args t first.toList) (args t captured.toList),st)) (nT fn)
def Bg(r:Option Operand):ff:=λ_ _ _ st=>match r with
 |none=>So (.m st.next,st.new (.mp [] 0))
 |some _=>No
def rH(ty:TypeId)(l c:Operand):ff:=λP _ t st=>match dO P ty,gO (ah t l),gO (ah t c)with
 |some e,So l,So c=>match bt P e with
  |some z=>(@Bool.rec (λ_=>_) No (So (.sl st.next 0 l (aq P e) (So c),st.aj (rep c z))) (Nat.ble l c&&(Nat.ble c 1073741824&&Nat.ble (c*jZ P e) 1073741824)))
  |none=>No
 |_,_,_=>No
def aaB(ty:TypeId)(x:Operand)(lo hi mx:Option Operand):ff:=λP _ t st=>cX st (gR P st ty (ah t x) (lo.map (ah t)) (hi.map (ah t)) (mx.map (ah t)))
def fieldAt(o:Nat)(st:St)(a:AV):aD :=
 match a.jL with
 |some (r,k)=>So (.p r (k+o),st)
 |none=>match a.x5 with
  |some c=>So (.rp (c.drop o),st)
  |none=>No
def oU(s:TypeId)(x:Operand)(n:Nat):ff:=λP _ t st=>match bE P s n with
 |some o=>fieldAt o st (ah t x)
 |none=>No
def aat(ty:TypeId)(x ix:Operand):ff:=λP _ t st=>cX st (indexAddr P ty (ah t x) (ah t ix))
def aas(ty:TypeId)(x ix:Operand):ff:=λP _ t st=>cX st (index P ty (ah t x) (ah t ix))
def aav(ty:TypeId)(x ix:Operand)(ok:Bool):ff:=λP _ t st=>cX st (lookup P ty st (ah t x) (ah t ix) ok)
def P6(ty:TypeId)(m k x:Operand):ff:=λP _ t st=>done (mapUpdate P ty st (ah t m) (ah t k) (ah t x))
def CP:List (AV×AV×Nat)->Nat->Nat
 |[],_=>0
 |(_,_,b)::_,0=>b
 |_::es,n+1=>CP es n
def Hy(st:St)(r:Nat)(k:AV)(es:List (AV×AV×Nat))(clock:Nat):Option AV->aD
 |some z=>So (.tu [z,.i .i64 (Int.ofNat clock)],st.put r (.mp (es++[(k,z,clock)]) (clock+1)))
 |none=>No
def Hx(P:Program)(st:St)(e:TypeId)(r:Nat)(k:AV):Option Row->aD
 |some (.mp es clock)=>match find k es 0 with
  |some (So (i,v))=>So (.tu [v,.i .i64 (Int.ofNat (CP es i))],st.put r (.mp es clock))
  |some No=>Hy st r k es clock (zeroOf P e)
  |none=>No
 |_=>No
def mapEntry(P:Program)(ty:TypeId)(st:St)(x k:AV):aD :=
 @Bool.rec (λ_=>aD) No (match P.underlying ty,x with
  |some (.map _ e),.m r=>Hx P st e r k (st.get r)
  |_,_=>No) (ko P ty k)
def An(b:Nat):List (AV×AV×Nat)->Nat->Option Nat
 |[],_=>No
 |(_,_,c)::es,n=>@Bool.rec (λ_=>Option Nat) (An b es (n+1)) (So n) (Nat.beq c b)
def RY(st:St)(r:Nat)(v:AV)(es:List (AV×AV×Nat))(clock:Nat):Option Nat->Option St
 |some i=>So (st.put r (.mp (mo es i v) clock))
 |none=>No
def entryStore(st:St)(v:AV):AV->Option Nat->Option St
 |.m r,So b=>match st.get r with
  |some (.mp es clock)=>RY st r v es clock (An b es 0)
  |_=>No
 |_,_=>No
def aaw(ty:TypeId)(m k:Operand):ff:=λP _ t st=>mapEntry P ty st (ah t m) (ah t k)
def aap(m s x:Operand):ff:=λ_ _ t st=>done (entryStore st (ah t x) (ah t m) (gO (ah t s)))
def rP(P:Program)(ty:TypeId)(st:St)(x:AV):aD:=match P.underlying ty,x with
 |some (.map _ _),.m r=>match st.get r with
  |some (.mp _ clock)=>So (.p st.next 0,st.new (.mi (So r) clock [] clock))
  |_=>No
 |_,_=>No
def aaA(ty:TypeId)(x:Operand):ff:=λP _ t st=>rP P ty st (ah t x)
def left(seen:List Nat)(es:List (AV×AV×Nat)):List (AV×AV×Nat):=es.filter λe=>!mem e.2.2 seen
def IH(st:St)(r m since:Nat)(seen:List Nat)(last:Nat)(es:List (AV×AV×Nat))(clock:Nat):aD :=
 (@Bool.rec (λ_=>_) (
  match left seen es with
  |[]=>So (.tu [.b Ff],st)
  |[(k,v,b)]=>(@Bool.rec (λ_=>_) No (So (.tu [.b Tt,k,v],st.put r (.mi (So m) since (seen++[b]) clock))) (Nat.blt b since))
  |_=>No) No (!seen.isEmpty&&!es.isEmpty&&es.all λe=>Nat.ble last e.2.2))
def wQ(st:St)(isS:Bool):AV->aD
 |.p r 0=>match st.get r,isS with
  |some (.mi (So m) since seen last),Ff=>match st.get m with
   |some (.mp es clock)=>IH st r m since seen last es clock
   |_=>No
  |_,_=>No
 |_=>No
def aax(it:Operand)(isS:Bool):ff:=λ_ _ t st=>wQ st isS (ah t it)
def AO:List Nat->Option Nat
 |[]=>No
 |[x]=>So x
 |_::l=>AO l
def vd(b:Nat)(st:St):List (AV×AV×Nat)->aD
 |[]=>No
 |(k,v,n)::l=>@Bool.rec (λ_=>aD) (vd b st l) (So (.tu [k,v],st)) (Nat.beq n b)
def Di(st:St)(es:List (AV×AV×Nat))(clock stepped:Nat):Option Nat->aD
 |some b=>@Bool.rec (λ_=>aD) No (vd b st es) (Nat.beq clock stepped)
 |none=>No
def td(st:St):AV->aD
 |.p r 0=>match st.get r with
  |some (.mi (So m) _ seen stepped)=>match st.get m with
   |some (.mp es clock)=>Di st es clock stepped (AO seen)
   |_=>No
  |_=>No
 |_=>No
def aao(it:Operand):ff:=λ_ _ t st=>td st (ah t it)
def nth(n:Nat)(st:St):AV->aD
 |.tu l=>cX st l[n]?
 |_=>No
def aaq(x:Operand)(n:Nat):ff:=λ_ _ t st=>nth n st (ah t x)
def sY(P:Program)(S:Self)(st:St)(az:List AV):AV->aD
 |.f (.func f) first captured=>pN P S f (first++(az++captured)) st
 |.f (.yield l) [] []=>round S l az st
 |_=>No
def rG(c:Call):ff:=λP S t st=>match c.callee with
 |.builtin b=>wy b P st c.argTypes.toList (args t c.args.toList)
 |.value f=>sY P S st (args t c.args.toList) (ah t f)
 |_=>No
def mf:ff:=λ_ _ _ _=>No
def cO(o:Op):ff :=
 @Op.rec (λ_=>ff) P7 P7 aaz aak (λ_ x=>aam x) P5 oT P6 aau aaC (λ_=>mf) (λ_=>mf) aay
  (λop ty x y _=>aal op ty x y) (λop _ x=>aaD op x) aan (λ_ _=>mf) (λ_ _=>mf) Bf (λ_ r=>Bg r) (λ_ _=>mf) rH aaB oU (λ_ _ _=>mf)
  aat aas aav P6 aaw (λ_ m s x=>aap m s x) aaA aax aao (λ_ _ _ _=>mf) aaq rG (λ_=>mf) (λ_=>mf)
  (λ_=>mf) (λ_ _=>mf) (λ_ _ _=>mf) (λ_ _=>mf) o
def cC(P:Program)(S:Self)(t:Tr AV)(st:St)(o:Oper):aD:=cO o.op P S t st
def AV.seen(v:AV)(k:AV->β):β :=
 @AV.rec (λ_=>_) (λ_=>PUnit.{1}) (λk:AV->β=>k .bad) (λk=>k .un) (λx k=>k (.b x)) (λd n k=>k (.i d n)) (λl k=>k (.s l)) (λr o k=>k (.p r o)) (λk=>k .pn) (λg k=>k (.gp g)) (λc _ k=>k (.rp c)) (λr o n z c k=>k (.sl r o n z c)) (λk=>k .sn) (λc n z _ k=>k (.rs c n z)) (λr k=>k (.m r)) (λk=>k .mn) (λg x y _ _ k=>k (.f g x y)) (λk=>k .fn0) (λt u _ k=>k (.ifc t u)) (λk=>k .if0) (λl _ k=>k (.ag l)) (λl _ k=>k (.tu l)) (λr k=>k (.c r)) (λk=>k .cn) ⟨⟩ (λ_ _ _ _=>⟨⟩) v k
theorem AV.seen_eq(v:AV)(k:AV->β):v.seen k=k v:=by cases v<;>rfl
def AV.Ip(v:AV):Bool :=
 @AV.rec (λ_=>_) (λ_=>PUnit.{1}) Ff Tt (λ_=>Ff) (λ_ _=>Ff) (λ_=>Ff) (λ_ _=>Ff) Ff (λ_=>Ff) (λ_ _=>Ff) (λ_ _ _ _ _=>Ff) Ff (λ_ _ _ _=>Ff) (λ_=>Ff) Ff (λ_ _ _ _ _=>Ff) Ff (λ_ _ _=>Ff) Ff (λ_ _=>Ff) (λ_ _=>Ff) (λ_=>Ff) Ff ⟨⟩ (λ_ _ _ _=>⟨⟩) v
theorem AV.Yz{v:AV}(h:v.Ip=Tt):v=.un:=by cases v<;>first|rfl|cases h
def AB(want:Bool):Option AV->Option Bool
 |some v=>match v.gH with
  |some x=>So (x==want)
  |none=>cond v.Ip (So Ff) No
 |none=>So Ff
def tj(ops:Array Oper)(t:Tr AV)(j:Nat)(want:Bool):Option Bool :=
 match ops[j]? with
 |some g=>match g.dst with
  |some d=>AB want (t.get d)
  |none=>No
 |none=>No
def gL(ops:Array Oper)(t:Tr AV)(o:Oper):Option Bool :=
 match o.guard with
 |none=>So Tt
 |some (j,want)=>tj ops t j want
def dE(nt:Nat)(t:Tr AV)(d:Option Tmp)(v:AV):Option (Tr AV):=
 match d with
 |none=>So t
 |some d=>(@Bool.rec (λ_=>_) No (v.seen λv=>So (t.set d (So v))) (Nat.blt d nt))
def Tr.seen(t:Tr α)(k:Tr α->β):β :=
 @Tr.rec α (λ_=>(Tr α->β)->β) (λk=>k .lf) (λv l r _ _ k=>k (.nd v l r)) t k
theorem Tr.seen_eq(t:Tr α)(k:Tr α->β):t.seen k=k t:=by cases t<;>rfl
def iz(o:Option (Tr AV))(k:Tr AV->Out):Out :=
 match o with
 |some t=>t.seen k
 |none=>.no
def oS(nt:Nat)(t:Tr AV)(d:Option Tmp)(r:aD)(k:Tr AV->St->Out):Out :=
 match r with
 |some (v,st)=>iz (dE nt t d v) λt=>k t st
 |none=>.no
def ab8(P:Program)(e:Nat):List Field->Bool
 |f::_=>match P.underlying f.type with|some (.pointer e')=>Nat.beq e' e|_=>Ff
 |[]=>Ff
def yY(P:Program)(e:TypeId):Bool:=match P.underlying e with|some (.struct fs)=>ab8 P e fs.toList|_=>Ff
def mc(P:Program)(S:Self)(nt:Nat)(o:Oper)(t:Tr AV)(st:St)(k:Tr AV->St->Out):Option Bool->Out
 |some Tt=>oS nt t o.dst (cC P S t st o) k
 |some Ff=>iz (dE nt t o.dst .un) λt=>k t st
 |none=>.no
def bw(P:Program)(S:Self)(nt:Nat)(ops:Array Oper)(l:List Oper):Tr AV->St->Out :=
 @List.rec Oper (λ_=>Tr AV->St->Out) (λt st=>.nx t st) (λo _ k t st=>mc P S nt o t st k (gL ops t o)) l
def kind:Op->Nat
 |.move _|.assign _|.pick _ _ _|.build _ _|.nilCheck _|.binOp _ _ _ _ _|.unOp _ _ _|.field _ _ _|.fieldAddr _ _ _|.indexAddr _ _ _|.index _ _ _|.extract _ _|.makeInterface _ _
 |.makeFunc _ _ _=>0
 |.load _ _|.lookup _ _ _ _|.slice _ _ _ _ _=>1
 |.call {callee:=.builtin .len,.. }=>1
 |.alloc _|.box _ _|.buildSlice _ _ _=>2
 |_=>3
def ahead(acc:List Nat):List Edge->Option Nat
 |[]=>So 0
 |e::l=>match ahead acc l with
  |none=>No
  |some m=>cond (Region.binds .any e) (match acc[e.on]? with|some k=>So (Nat.lor m (Nat.lor (2 ^ e.on) k))|none=>No) (So m)
def kJ:List Oper->List Nat->Option (List Nat)
 |[],acc=>So acc
 |o::l,acc=>match ahead acc o.after.toList with
  |some m=>kJ l (acc++[m])
  |none=>No
def Rs(x y:Oper):Bool :=
 match x.dst with
 |some d=>y.dst==So d
 |none=>Ff
def clash(a b:Nat):Bool:=Nat.ble 2 a&&Nat.beq b 3
def yH(ops:Array Oper)(x y:Oper)(o:Bool):Bool:=!Rs x y&&(o||(Oper.apart ops x y&&!clash (kind x.op) (kind y.op)))
def EZ(ops:Array Oper)(y:Oper)(i:Nat):List Oper->List Nat->Bool
 |o::l,b::bs=>(cond (match y.dst with|some d=>(o.looksAt ops).contains d|none=>Ff) (Nat.testBit b i) Tt)&&EZ ops y i l bs
 |_,_=>Tt
def Dg(ops:Array Oper)(bs:List Nat)(x y:Oper)(i:Nat)(o:Bool):Bool:=cond (Nat.beq (kind x.op) 3&&(Nat.beq (kind y.op) 2&&!o)) (EZ ops y i ops.toList bs) Tt
def Bl(ops:Array Oper)(bs:List Nat)(y:Oper)(bj:Nat):List Oper->Nat->Bool
 |[],_=>Tt
 |x::l,i=>(yH ops x y (Nat.testBit bj i)&&Dg ops bs x y i (Nat.testBit bj i))&&Bl ops bs y bj l (i+1)
def Io:Op->Bool
 |.select _ _=>Tt
 |_=>Ff
def uX(ops:Array Oper)(all:List Nat):List Oper->List Oper->List Nat->Bool
 |_,[],[]=>Tt
 |done,y::l,b::bs=>(!Io y.op&&Bl ops all y b done 0)&&uX ops all (done++[y]) l bs
 |_,_,_=>Ff
def zU(b p:Nat):List Nat->Nat->Bool
 |[],_=>Ff
 |k::l,i=>(Nat.ble p i&&(Nat.beq k 3&&Nat.testBit b i))||zU b p l (i+1)
def calm(p j:Nat):List Nat->Nat->Bool
 |[],_=>Tt
 |k::l,i=>(Nat.blt i p||(Nat.ble j i||Nat.blt k 2))&&calm p j l (i+1)
def aV(l:List Nat)(i:Nat):Nat:=match l[i]? with|some k=>k|none=>0
def Lv(bs:List Nat)(p j:Nat):Bool:=match p with|0=>Ff|p+1=>Nat.testBit (aV bs p) j
def pinned(ks bs:List Nat)(j p:Nat):Bool:=Lv bs p j||(zU (aV bs j) p ks 0||(Nat.ble p j&&calm p j ks 0))
def qg:List Nat->Nat->List Nat
 |[],_=>[]
 |k::l,i=>cond (Nat.beq k 3) ((i+1)::qg l (i+1)) (qg l (i+1))
def tf(ks bs:List Nat)(ps:List Nat):List Nat->Nat->List (Nat×Nat)
 |[],_=>[]
 |k::l,j=>cond (Nat.beq k 1) ((ps.filter λp=>!pinned ks bs j p).map (λp=>(j,p))++tf ks bs ps l (j+1)) (tf ks bs ps l (j+1))
def kQ(ops:Array Oper):Option (List (Nat×Nat)):=
 match kJ ops.toList [] with
 |some bs=>cond (uX ops bs [] ops.toList bs) (So (tf (ops.toList.map λo=>kind o.op) bs (0::qg (ops.toList.map λo=>kind o.op) 0) (ops.toList.map λo=>kind o.op) 0)) No
 |none=>No
def wi(f:AV->AV->Bool):List AV->List AV->Bool
 |[],[]=>Tt
 |a::l,b::m=>cond (f a b) (wi f l m) Ff
 |_,_=>Ff
def JK:Option Nat->Option Nat->Bool
 |some a,So b=>Nat.beq a b
 |none,No=>Tt
 |_,_=>Ff
def pI:Nat->AV->AV->Bool
 |0,_,_=>Ff
 |n+1,a,b=>match a,b with
  |.un,.un=>Tt
  |.b x,.b y=>cond x y (!y)
  |.i k a,.i k' b=>tv k k'&&oJ a b
  |.s l,.s l'=>leq l l'
  |.p r o,.p r' o'=>Nat.beq r r'&&Nat.beq o o'
  |.pn,.pn=>Tt
  |.gp g,.gp g'=>Nat.beq g g'
  |.rp c,.rp c'=>wi (pI n) c c'
  |.sl r o m z c,.sl r' o' m' z' c'=>Nat.beq r r'&&(Nat.beq o o'&&(Nat.beq m m'&&(Nat.beq z z'&&JK c c')))
  |.sn,.sn=>Tt
  |.rs c m z,.rs c' m' z'=>Nat.beq m m'&&(Nat.beq z z'&&wi (pI n) c c')
  |.m r,.m r'=>Nat.beq r r'
  |.mn,.mn=>Tt
  |.f (.func g) [] [],.f (.func g') [] []=>Nat.beq g g'
  |.fn0,.fn0=>Tt
  |.ifc t v,.ifc t' v'=>Nat.beq t t'&&pI n v v'
  |.if0,.if0=>Tt
  |.ag l,.ag l'=>wi (pI n) l l'
  |.tu l,.tu l'=>wi (pI n) l l'
  |_,_=>Ff
structure Rec where
 t:Tr AV
 st:St
 v:AV
 w:Bool
def tF(r:Rec):Option (List Rec)->Option (List Rec)
 |some l=>So (r::l)
 |none=>No
def lL(r:Rec)(o:Option (Tr AV))(k:Tr AV->Option (List Rec)):Option (List Rec):=
 match o with
 |some t=>tF r (k t)
 |none=>No
def rT(nt:Nat)(t:Tr AV)(st:St)(d:Option Tmp)(r:Option (AV×St))(k:Tr AV->St->Option (List Rec)):Option (List Rec):=
 match r with
 |some (v,st')=>lL ⟨t,st,v,Tt⟩ (dE nt t d v) λt=>k t st'
 |none=>No
def cj(P:Program)(S:Self)(nt:Nat)(ops:Array Oper):List Oper->Tr AV->St->Option (List Rec)
 |[],t,st=>So [⟨t,st,.un,Ff⟩]
 |o::l,t,st=>match gL ops t o with
  |some Tt=>rT nt t st o.dst (cC P S t st o) (cj P S nt ops l)
  |some Ff=>lL ⟨t,st,.un,Ff⟩ (dE nt t o.dst .un) λt=>cj P S nt ops l t st
  |none=>No
def MZ(a b:AV):Bool:=@decide (a=b) (Classical.propDecidable _)
def Fk(v:AV):Option (AV×St)->Bool
 |some (u,_)=>pI 4 v u||MZ v u
 |none=>Ff
def E8(P:Program)(S:Self)(r q:Rec):Option Oper->Bool
 |some o=>cond r.w (Fk r.v (cC P S r.t q.st o)) Tt
 |none=>Ff
def recheck(P:Program)(S:Self)(ops:Array Oper)(R:List Rec)(jp:Nat×Nat):Bool :=
 match R[jp.1]?,R[jp.2]? with
 |some r,So q=>E8 P S r q ops[jp.1]?
 |_,_=>Ff
def jQ:List Rec->Out
 |[]=>.no
 |[r]=>.nx r.t r.st
 |_::l=>jQ l
def nG(P:Program)(S:Self)(ops:Array Oper)(fl:List (Nat×Nat)):Option (List Rec)->Out
 |some R=>cond (fl.all (recheck P S ops R)) (jQ R) .no
 |none=>.no
def yz(o:Oper):Option Tmp :=
 match o.guard with
 |some _=>No
 |none=>match o.op with
  |.makeMap _ No=>o.dst
  |_=>No
def gU(d:Tmp)(o:Oper):Option (TypeId×Operand×Operand):=
 match o.guard,o.dst with
 |none,No=>match o.op with
  |.insert ty (.tmp e) k x=>cond (Nat.beq e d) (So (ty,k,x)) No
  |_=>No
 |_,_=>No
def kI(d:Tmp)(o:Oper):Oper :=
 match gU d o with
 |some (_,k,x)=>{o with op:=.makeFunc (.func 0) #[] #[k,x]}
 |none=>cond (o.dst==So d) {o with op:=.move (.const (.bool Tt)),dst:=No} o
def Dx:List Oper->Nat->Option (Nat×Tmp)
 |[],_=>No
 |o::l,i=>match yz o with
  |some d=>So (i,d)
  |none=>Dx l (i+1)
def Ea(d:Tmp):List Oper->Nat->Nat->Nat
 |[],_,h=>h
 |o::l,i,h=>Ea d l (i+1) (match gU d o with|some _=>i+1|none=>h)
def N3(o:Oper)(i0 h:Nat):Bool :=
 match o.guard with
 |some (g,_)=>Nat.blt g h&&!Nat.beq g i0
 |none=>Tt
def AD(aops:Array Oper)(d:Tmp)(i0 h:Nat):List Oper->List Nat->Nat->Bool
 |[],_,_=>Tt
 | o :: l,b :: bs,j=>(!((kI d o).looksAt aops).contains d && (N3 o i0 h &&
   (match gU d o with|some _=>Nat.testBit b i0|none=>Nat.beq j i0||!(o.dst==So d))))&&AD aops d i0 h l bs (j+1)
 |_,[],_=>Ff
def CA(b:Nat):Nat->Bool
 |0=>Tt
 |n+1=>Nat.testBit b n&&CA b n
def zh:List Nat->Nat->Bool
 |[],_=>Tt
 |b::bs,j=>CA b j&&zh bs (j+1)
structure vX where
 i0:Nat
 d:Tmp
 h:Nat
 aops:Array Oper
 fl:List (Nat×Nat)
def Qn(ops aops:Array Oper)(i0:Nat)(d:Tmp)(h:Nat):Option vX :=
 match kJ aops.toList [],kJ ops.toList [] with
 | some bs,So bsF=>cond ((Nat.blt i0 h && Nat.ble h ops.size) && (uX aops bs [] aops.toList bs && (AD aops d i0 h (ops.toList.take h) bs 0 && zh (bsF.drop h) h)))
   (So ⟨i0,d,h,aops,tf (aops.toList.map λo=>kind o.op) bs (0::qg (aops.toList.map λo=>kind o.op) 0) (aops.toList.map λo=>kind o.op) 0⟩) No
 |_,_=>No
def yJ(ops:Array Oper):Option vX :=
 match Dx ops.toList 0 with
 |some (i0,d)=>Qn ops ((ops.toList.take (Ea d ops.toList 0 (i0+1))).map (kI d)).toArray i0 d (Ea d ops.toList 0 (i0+1))
 |none=>No
def D9:AV->Option (AV×AV)
 |.f _ [] [k,x]=>So (k,x)
 |_=>No
def isFalse:Option Bool->Bool
 |some Ff=>Tt
 |_=>Ff
def Av(k:AV):List (AV×AV)->Bool
 |[]=>Tt
 |(x,_)::es=>(isFalse (iu k x)&&isFalse (iu x k))&&Av k es
def yx(P:Program)(d:Tmp):List Oper->List Rec->Option (List (AV×AV))
 |[],_=>So []
 |o::l,r::R=>match gU d o,yx P d l R with
  |some (ty,_,_),So es=>match D9 r.v with
   |some kv=>cond (ko P ty kv.1&&Av kv.1 es) (So (kv::es)) No
   |none=>No
  |none,r=>r
  |_,No=>No
 |_,[]=>No
def Ed(P:Program)(S:Self)(nt:Nat)(ops:Array Oper)(h:Nat)(es:List (AV×AV))(st:St):Option (Tr AV)->Out
 |some t=>t.seen λt=>bw P S nt ops (ops.toList.drop h) t (st.new (.mu es))
 |none=>.no
def Pi(P:Program)(S:Self)(nt:Nat)(ops:Array Oper)(d:Tmp)(h:Nat)(es:List (AV×AV)):Out->Out
 |.nx t st=>Ed P S nt ops h es st (dE nt t (So d) (.m st.next))
 |_=>.no
def Hs(P:Program)(S:Self)(nt:Nat)(ops:Array Oper)(m:vX):Option (List Rec)->Out
 |some R=>cond (m.fl.all (recheck P S m.aops R)) (match yx P m.d (ops.toList.take m.h) R with|some es=>Pi P S nt ops m.d m.h es (jQ R)|none=>.no) .no
 |none=>.no
def QW(τ:List Nat)(e:Edge):Edge:={e with on:=aV τ e.on}
def QX(τ:List Nat):Option (Nat×Bool)->Option (Nat×Bool)
 |some (g,w)=>So (aV τ g,w)
 |none=>No
def JC(τ:List Nat)(o:Oper):Oper:={o with after:=(o.after.toList.map (QW τ)).toArray,guard:=QX τ o.guard}
def reorder(ops:Array Oper)(τ:List Nat):List Nat->Option (List Oper)
 |[]=>So []
 |i::l=>match ops[i]?,reorder ops τ l with
  |some o,So r=>So (JC τ o::r)
  |_,_=>No
def Ij(i:Nat):List Nat->Nat->Nat
 |[],k=>k
 |x::l,k=>cond (Nat.beq x i) k (Ij i l (k+1))
def Al(b m:Nat):Nat->List Nat
 |0=>[]
 |k+1=>Al b m k++cond (Nat.testBit b k&&!Nat.testBit m k) [k] []
def IY:List Nat->List Nat->Nat->Nat->List Nat
 |k::ks,b::bs,i,m=>cond (Nat.beq k 3) (Al b m i++(i::IY ks bs (i+1) (Nat.lor m (Nat.lor b (2 ^ i))))) (IY ks bs (i+1) m)
 |_,_,n,m=>Al (2 ^ n-1) m n
def Bn(n:Nat)(σ τ:List Nat):Nat->Bool
 |0=>Tt
 |k+1=>(Nat.blt (aV σ k) n&&(Nat.blt (aV τ k) n&&(Nat.beq (aV σ (aV τ k)) k&&Nat.beq (aV τ (aV σ k)) k)))&&Bn n σ τ k
def N2(n:Nat):Option (Nat×Bool)->Bool
 |some (g,_)=>Nat.blt g n
 |none=>Tt
def AC(n:Nat):List Oper->Bool
 |[]=>Tt
 |o::l=>N2 n o.guard&&AC n l
structure kW where
 σ:List Nat
 τ:List Nat
 pops:Array Oper
 fl:List (Nat×Nat)
def Qr(ops:Array Oper)(σ τ:List Nat)(pops:Array Oper):Option (List (Nat×Nat))->Option kW
 |some fl=>cond (Nat.beq pops.size ops.size&&(Bn ops.size σ τ ops.size&&AC ops.size ops.toList)) (So ⟨σ,τ,pops,fl⟩) No
 |none=>No
def Qq(ops:Array Oper)(σ τ:List Nat):Option (List Oper)->Option kW
 |some l=>Qr ops σ τ l.toArray (kQ l.toArray)
 |none=>No
def Qp(ops:Array Oper)(σ τ:List Nat):Option kW:=Qq ops σ τ (reorder ops τ σ)
def EL(ops:Array Oper)(σ:List Nat):Option kW:=Qp ops σ ((List.range ops.size).map λi=>Ij i σ 0)
def tK(ops:Array Oper):Option kW :=
 match kJ ops.toList [] with
 |some bs=>EL ops (IY (ops.toList.map λo=>kind o.op) bs 0 0)
 |none=>No
def IZ(n:Nat):List Nat->List Nat->Nat->Nat->List Nat
 |k::ks,b::bs,i,m=>cond (Nat.beq k 3) (Al b m n++(i::IZ n ks bs (i+1) (Nat.lor m (Nat.lor b (2 ^ i))))) (IZ n ks bs (i+1) m)
 |_,_,_,m=>Al (2 ^ n-1) m n
def ad9(x y:Nat)(bs:List Nat):List Nat:=bs.set x (Nat.lor (aV bs x) (Nat.sub (aV bs y) (2 ^ x)))
def Bo(ops:Array Oper)(x y:Nat):Option kW :=
 match kJ ops.toList [] with
 |some bs=>EL ops (IZ ops.size (ops.toList.map λo=>kind o.op) (ad9 x y bs) 0 0)
 |none=>No
def Ai(P:Program)(S:Self)(nt:Nat)(t:Tr AV)(st:St):Option kW->Out
 |some m=>nG P S m.pops m.fl (cj P S nt m.pops m.pops.toList t st)
 |none=>.no
def Hv(x:Nat):Edge:=⟨x,.data⟩
def su(x:Nat)(o:Oper):Oper:={o with after:=o.after.push (Hv x)}
def addEdge(x:Nat):Nat->List Oper->List Oper
 |_,[]=>[]
 |0,o::l=>su x o::l
 |y+1,o::l=>o::addEdge x y l
def iE(k i:Nat):Nat:=cond (Nat.beq i k) (k+1) (cond (Nat.beq i (k+1)) k i)
def ZN(k:Nat)(o:Oper):Oper:={o with after:=(o.after.toList.filter λe=>!(Nat.beq e.on k)).toArray}
def zg(k:Nat)(e:Edge):Edge:=⟨iE k e.on,e.ground⟩
def Kd(k:Nat)(o:Oper):Oper:={o with after:=(o.after.toList.map (zg k)).toArray}
def u7(k i:Nat)(o:Oper):Oper:=cond (Nat.beq i k) (Kd k (su (k+1) o)) (cond (Nat.beq i (k+1)) (Kd k (ZN k o)) (Kd k o))
def vw(f:Nat->Oper->Oper):Nat->List Oper->List Oper
 |_,[]=>[]
 |i,o::l=>f i o::vw f (i+1) l
def vP:Nat->List Oper->List Oper
 |0,x::y::r=>y::x::r
 |k+1,o::r=>o::vP k r
 |_,l=>l
def gk(k:Nat)(pops:Array Oper):Array Oper:=(vP k (vw (u7 k) 0 pops.toList)).toArray
def DL(k:Nat)(o:Oper):Bool:=match o.guard with|some (g,_)=>!(Nat.beq g k)&&!(Nat.beq g (k+1))|none=>Tt
def rz(x y:Nat)(ops:Array Oper):Array Oper:=(addEdge x y ops.toList).toArray
structure vY where
 m:kW
 k:Nat
 flB:List (Nat×Nat)
def OB(o:Oper):Bool:=match o.op,o.dst,o.guard with
 |.store _ _ _,No,No=>Tt
 |_,_,_=>Ff
def vN(pops:Array Oper)(i:Nat):Bool:=match pops[i]? with|some o=>OB o|none=>Ff
def P9(b:Nat):List Nat->Nat->Option Nat
 |[],_=>No
 |k::ks,i=>cond (Nat.beq k 3&&!Nat.testBit b i) (So i) (P9 b ks (i+1))
def EG(ks:List Nat):List Nat->List Nat->Nat->Option (Nat×Nat)
 |k::r,b::bs,i=>cond (Nat.beq k 3) (match P9 b (ks.take i) 0 with|some x=>So (x,i)|none=>EG ks r bs (i+1)) (EG ks r bs (i+1))
 |_,_,_=>No
def Qu(m:kW)(k:Nat):Option (List (Nat×Nat))->Option vY
 |some fl=>cond (vN m.pops k&&(vN m.pops (k+1)&&m.pops.toList.all (DL k))) (So ⟨m,k,fl⟩) No
 |none=>No
def Qt(x y:Nat):Option kW->Option vY
 |some m=>cond (Nat.beq (aV m.τ y) (aV m.τ x+1)) (Qu m (aV m.τ x) (kQ (gk (aV m.τ x) m.pops))) No
 |none=>No
def Qs(ops:Array Oper):Option (Nat×Nat)->Option vY
 |some (x,y)=>cond (Nat.blt x ops.size&&(Nat.blt y ops.size&&!Nat.beq x y)) (Qt x y (Bo (rz x y ops) x y)) No
 |none=>No
def vE(ops:Array Oper):Option vY :=
 match kJ ops.toList [] with
 |some bs=>Qs ops (EG (ops.toList.map λo=>kind o.op) (ops.toList.map λo=>kind o.op) bs 0)
 |none=>No
def LF(r:Rec):Op->Op->Bool
 |.store _ a1 _,.store _ a2 _=>match (ah r.t a1).jL,(ah r.t a2).jL with
  |some (r1,_),So (r2,_)=>match r.st.ce r1,r.st.ce r2 with
   |some (_,g1,_),So (_,g2,_)=>!(Nat.beq r1 r2)&&!(Nat.beq g1 g2)
   |_,_=>Ff
  |_,_=>Ff
 |_,_=>Ff
def CB(pops:Array Oper)(k:Nat)(R:List Rec):Bool:=match R[k]?,pops[k]?,pops[k+1]? with
 |some r,So x,So y=>LF r x.op y.op
 |_,_,_=>Ff
def Df(P:Program)(S:Self)(m:vY):Option (List Rec)->Option (List Rec)->Out
 |some RA,So RB=>cond (m.m.fl.all (recheck P S m.m.pops RA)&&(m.flB.all (recheck P S (gk m.k m.m.pops) RB)&&CB m.m.pops m.k RA)) (jQ RA) .no
 |_,_=>.no
def Ak(P:Program)(S:Self)(nt:Nat)(t:Tr AV)(st:St):Option vY->Out
 |some m=>Df P S m (cj P S nt m.m.pops m.m.pops.toList t st) (cj P S nt (gk m.k m.m.pops) (gk m.k m.m.pops).toList t st)
 |none=>.no
def Aj(P:Program)(S:Self)(nt:Nat)(ops:Array Oper)(t:Tr AV)(st:St):Option kW->Out
 |some m=>Ai P S nt t st (So m)
 |none=>Ak P S nt t st (vE ops)
def uW(P:Program)(S:Self)(nt:Nat)(ops:Array Oper)(t:Tr AV)(st:St):Option vX->Out
 |some m=>Hs P S nt ops m (cj P S nt m.aops m.aops.toList t st)
 |none=>Aj P S nt ops t st (tK ops)
def Ah(P:Program)(S:Self)(nt:Nat)(ops:Array Oper)(t:Tr AV)(st:St):Option (List (Nat×Nat))->Out
 |some fl=>nG P S ops fl (cj P S nt ops ops.toList t st)
 |none=>uW P S nt ops t st (yJ ops)
structure Ctx where
 P:Program
 S:Self
 inR:Bool
 nt:Nat
 n:Nat
def bW(o:Out)(k:Tr AV->St->Out):Out :=
 match o with
 |.nx t st=>k t st
 |o=>o
def pL(id:Nat):Out->Out
 |.ex i t st=>(@Bool.rec (λ_=>_) (.ex i t st) (.nx t st) (Nat.beq i id))
 |o=>o
def wB(x y:Tr AV->St->Out)(t:Tr AV)(st:St)(v:AV):Out :=
 match v.gH with
 |some Tt=>x t st
 |some Ff=>y t st
 |none=>.no
def aQ(body:Tr AV->St->Out)(n:Nat):Tr AV->St->Out :=
 @Nat.rec (λ_=>Tr AV->St->Out) (λ_ _=>.no) (λ_ k t st=>bW (body t st) k) n
def Bz(t:Tr AV)(st:St)(l:Nat):Option Row->Out
 |some (.lp _ _ _ _ _)=>.nx t (st.drop l)
 |_=>.no
def rN(x:Ctx)(ps:Array Tmp)(a b:Code)(t:Tr AV)(st:St):AV->Out
 |.f (.func g) first captured=>
  match pP x.P x.S g (first++([.f (.yield st.next) [] []]++captured)) (st.new (.lp t x.nt ps.toList a b))with
  |some (_,st')=>Bz t st' st.next (st'.get st.next)
  |none=>.no
 |_=>.no
def zq(e:Nat)(t:Tr AV)(st:St):AV->Out
 |.p r _=>@Bool.rec (λ_=>Out) (.nx t st) (.nx t (st.new (.ty e r Tt))) (Nat.beq (r+1) st.next)
 |_=>.nx t st
def Ss(e:Nat)(d:Tmp):Out->Out
 |.nx t st=>zq e t st (ah t (.tmp d))
 |o=>o
def xe(x:Ctx)(e:Nat)(d:Tmp)(r:Out):Out:=@Bool.rec (λ_=>Out) r (Ss e d r) (yY x.P e)
def JB(x:Ctx)(e:Nat)(r:Out):Option Tmp->Out
 |some d=>xe x e d r
 |none=>r
def Fe(x:Ctx)(d:Option Tmp)(r:Out):Op->Out
 |.alloc e=>JB x e r d
 |_=>r
def oV(x:Ctx)(ops:Array Oper)(t:Tr AV)(st:St):Out:=match ops.toList with
 |[o]=>Fe x o.dst (bw x.P x.S x.nt ops ops.toList t st) o.op
 |l=>bw x.P x.S x.nt ops l t st
def qW(x:Ctx)(ops:Array Oper)(t:Tr AV)(st:St):Out:=Ah x.P x.S x.nt ops t st (kQ ops)
def ao(c:Code):Ctx->Tr AV->St->Out :=
 @Code.rec (λ_=>Ctx->Tr AV->St->Out)
  (λ_ t st=>.nx t st)
  (λ_ ops d x t st=>@Bool.rec (λ_=>Out) (oV x ops t st) (qW x ops t st) d)
  (λ_ _ ea eb x t st=>bW (ea x t st) (eb x))
  (λc _ _ ea eb x t st=>wB (ea x) (eb x) t st (ah t c))
  (λid _ eb x t st=>pL id (eb x t st))
  (λ_ eb x t st=>aQ (eb x) x.n t st)
  (λf ps a b _ _ x t st=>cond x.inR .no (rN x ps a b t st (ah t f)))
  (λid _ t st=>.ex id t st)
  (λ_ _ _ _ _=>.no)
  (λ_ _ t st=>.nx t st)
  (λ_ _ _ _=>.no)
  (λ_ t st=>.rt t st)
  (λ_ _ _ _=>.no) c
def oW(P:Program)(t:Tr AV)(st:St):ResultVar->Option AV
 |.tmp x=>So (match t.get x with|some v=>v|none=>.un)
 |.cell a ty=>match t.get a with|some v=>loadAt P ty st v|none=>No
def nY(P:Program)(l:List ResultVar)(t:Tr AV)(st:St):aD :=
 match aO (oW P t st) l with
 |some [v]=>So (v,st)
 |some vs=>So (.tu vs,st)
 |none=>No
def tmpsOf:List AV->Nat->Tr AV->Tr AV
 |[],_,t=>t
 |v::l,n,t=>tmpsOf l (n+1) (t.set n (So v))
def fN(P:Program)(l:List ResultVar):Out->aD
 |.nx t st=>nY P l t st
 |.rt t st=>nY P l t st
 |_=>No
def MP(c:Call):Option Operand:=match c.callee,c.args.toList with
 |.value f,[]=>So f
 |_,_=>No
def uV(o:Oper):Option Operand:=match o.op,o.guard with
 |.defer c,No=>MP c
 |_,_=>No
def Dc:List Oper->Option (List Oper×Oper×Operand)
 |[]=>No
 |o::l=>match l with
  |[]=>match uV o with|some f=>So ([],o,f)|none=>No
  |_=>match Dc l with|some (h,d,f)=>So (o::h,d,f)|none=>No
def oE:Code->Option (Array Oper×List Oper×Oper×Operand)
 |.region _ ops Ff=>match Dc ops.toList with|some (h,d,f)=>So (ops,h,d,f)|none=>No
 |_=>No
def defers:Nat->Code->Bool
 |n+1,.seq a b=>(oE a).isSome||defers n b
 |_,_=>Ff
def wD(t:Tr AV):aD->Out
 |some (_,st)=>.nx t st
 |none=>.no
def Hr(S:Self)(st:St)(fn:Func)(f:FuncId)(az:List AV):aD :=
 match fn.body with
 |some _=>S.dcall f az st
 |none=>No
def pR(P:Program)(S:Self)(f:FuncId)(az:List AV)(st:St):aD :=
 match P.funcs[f]? with
 |some fn=>Hr S st fn f az
 |none=>No
def oD(x:Ctx)(t:Tr AV)(st:St):AV->Out
 |.f (.func g) first captured=>wD t (pR x.P x.S g (first++captured) st)
 |_=>.no
def pT(x:Ctx)(v:AV):Out->Out
 |.nx t st=>oD x t st v
 |.rt t st=>oD x t st v
 |_=>.no
def Fh(x:Ctx)(f:Operand)(k:Tr AV->St->Out)(t:Tr AV)(st:St):Option (Tr AV)->Out
 |some t'=>t'.seen λt'=>pT x (ah t f) (k t' st)
 |none=>.no
def vR(x:Ctx)(d:Oper)(f:Operand)(k:Tr AV->St->Out):Out->Out
 |.nx t st=>Fh x f k t st (dE x.nt t d.dst .un)
 |_=>.no
def kM(x:Ctx):Nat->Code->Tr AV->St->Out
 |n+1,.seq a b=>λt st=>match oE a with
  |some (ops,h,d,f)=>vR x d f (ao b x) (bw x.P x.S x.nt ops h t st)
  |none=>bW (ao a x t st) (kM x n b)
 |_,c=>λt st=>ao c x t st
def qX(x:Ctx)(c:Code):Tr AV->St->Out:=@Bool.rec (λ_=>Tr AV->St->Out) (ao c x) (kM x 4 c) (defers 4 c)
def ib(P:Program)(S:Self)(n:Nat)(f:FuncId)(az:List AV)(st:St):aD :=
 match P.funcs[f]? with
 |none=>No
 |some fn=>match fn.body with
  |none=>No
  |some c=>(@Bool.rec (λ_=>_) No (fN P fn.results.toList (qX ⟨P,S,Ff,fn.ntmps,n⟩ c (tmpsOf az 0 .lf) st)) (Nat.ble az.length fn.ntmps))
def self(P:Program)(n:Nat):Self :=
 @Nat.rec (λ_=>Self) ⟨λ_ _ _=>No,λ_ _ _ _=>.no,λ_ _ _=>No⟩ (λn s=>⟨ib P s n,λnt c t st=>ao c ⟨P,s,Tt,nt,n⟩ t st,ib P s n⟩) n
def Wr(P:Program)(n:Nat):FuncId->List AV->St->aD:=(self P n).call
theorem bh(a b:Nat):Nat.beq a b=decide (a=b):=by rw[Bool.eq_iff_iff];simp_all
theorem FR(f n:Nat):qj (f+1) n=if n=0 then[] else if n % 2=1 then Tt::qj f (n / 2) else Ff::qj f (n / 2-1):=by
 have h:qj (f+1) n=@Bool.rec (λ_=>List Bool) (@Bool.rec (λ_=>List Bool) (Ff::qj f (n / 2-1)) (Tt::qj f (n / 2)) (Nat.beq (n % 2) 1)) [] (Nat.beq n 0):=rfl;rw[h,bh,bh];by_cases h0:n=0
 ·simp_all
 ·by_cases h1:n % 2=1<;>simp[h0,h1]
theorem adX:∀(f n:Nat),n<=f->∀g m,m<=g->qj f n=qj g m->n=m:=by
 intro f;induction f with
 |zero=>
  intro n hn g m hm h;have:n=0:=by omega
  subst this;cases g with
  |zero=>omega
  |succ g=>
   rw[FR]at h;by_cases e:m=0
   ·grind
   ·rw[if_neg e,show qj 0 0=[] from rfl]at h;grind
 |succ f ih=>
  intro n hn g m hm h;rw[FR]at h;by_cases e:n=0
  ·cases g with
   |zero=>omega
   |succ g=>grind[FR]
  ·cases g with
   |zero=>rw[show qj 0 m=[] from rfl]at h;grind
   |succ g=>grind[FR]
theorem SV{m:Nat}(h:B8 n=B8 m):n=m:=adX n n (Q0 _) m m (Q0 _) h
theorem Tr.Ax{α:Type}(v:Option α):∀(p q:List Bool) (t:Tr α),(Tr.fS p v t).oF q=if q=p then v else t.oF q
 |[],[],t=>by cases t<;>rfl
 |[],b::q,t=>by cases t<;>cases b<;>simp[Tr.fS,Tr.oF]<;>(cases q<;>rfl)
 |b::p,[],t=>by cases t<;>cases b<;>simp[Tr.fS,Tr.oF]
 |b::p,c::q,t=>by
  cases t with
  |lf=>
   have h:Tr.oF q (Tr.lf:Tr α)=none:=by cases q<;>rfl
   cases b<;>cases c<;>simp[reduceCtorEq]
   ·show Tr.oF q (Tr.fS p v .lf)=_
    rw[Tr.Ax v p q .lf,h];rfl
   ·show Tr.oF q .lf=_
    rw[h];rfl
   ·show Tr.oF q .lf=_
    rw[h];rfl
   ·show Tr.oF q (Tr.fS p v .lf)=_
    rw[Tr.Ax v p q .lf,h];rfl
  |nd o l r=>
   cases b<;>cases c<;>simp[reduceCtorEq]
   ·show Tr.oF q (Tr.fS p v r)=_
    rw[Tr.Ax v p q r];rfl
   ·rfl
   ·rfl
   ·show Tr.oF q (Tr.fS p v l)=_
    rw[Tr.Ax v p q l];rfl
theorem Tr.cW(t:Tr α)(n:Nat)(v:Option α)(m:Nat):(t.set n v).get m=if m=n then v else t.get m:=by grind[Tr.get,Tr.set,Tr.Ax,SV]
theorem Tr.vm(n:Nat):(Tr.lf:Tr α).get n=none:=by unfold Tr.get;cases B8 n<;>rfl
structure eo where
 b:Nat
 d:Nat
 n:Nat
structure Env where
 imm:Nat->Option Obj
 phi:Nat->Option eo
 top:Nat
def Env.cell(E:Env)(b o:Nat):Option Value :=
 match E.imm b with
 |some (.cells c _ _)=>c[o]?
 |_=>No
mutual
inductive Conc (E:Env):AV->Value->Prop
 |bad (v:Value):Conc E .bad v
 |un:Conc E .un undef
 |b (x:Bool):Conc E (.b x) (.bool x)
 |i (k:IntKind) (n:Int):Conc E (.i k n) (.int k n)
 |s (bs:ByteArray):Conc E (.s (bs.data.toList.map UInt8.toNat)) (.string bs)
 |p (r o:Nat) (B:eo) (h:E.phi r=So B):Conc E (.p r o) (.pointer (So ⟨B.b,o+B.d,No⟩))
 |pn:Conc E .pn (.pointer No)
 |gp (g:Nat):Conc E (.gp g) (.pointer (So ⟨g,0,No⟩))
 |rp (c:List AV) (b o:Nat) (vs:List Value) (h:∀j v,vs[j]? = So v->E.cell b (o+j)=So v) (hc:aH E c vs):Conc E (.rp c) (.pointer (So ⟨b,o,No⟩))
 |slk (r o n z c:Nat) (a:Addr) (hn:n<=c) (h:c=0\/∃B,E.phi r=So B/\a=⟨B.b,o+B.d,No⟩):Conc E (.sl r o n z (So c)) (.slice (So a) n c)
 |slu (r o n z c:Nat) (a:Addr) (hn:n<=c) (h:∃B,E.phi r=So B/\(c=0\/a=⟨B.b,o+B.d,No⟩)/\o+B.d+c*z=B.n):Conc E (.sl r o n z No) (.slice (So a) n c)
 |sn:Conc E .sn (.slice No 0 0)
 |rs (c:List AV) (n z k:Nat) (b o:Nat) (vs:List Value) (hn:n<=k) (h:∀j v,vs[j]? = So v->E.cell b (o+j)=So v) (hc:aH E c vs):Conc E (.rs c n z) (.slice (So ⟨b,o,No⟩) n k)
 |rs0 (c:List AV) (z:Nat) (a:Addr) (k:Nat):Conc E (.rs c 0 z) (.slice (So a) 0 k)
 |m (r:Nat) (B:eo) (h:E.phi r=So B):Conc E (.m r) (.map (So B.b))
 |mn:Conc E .mn (.map No)
 |f (fn:Fn) (x y:List AV) (vx vy:List Value) (hy':nT fn=Tt) (hx:aH E x vx) (hy:aH E y vy):Conc E (.f fn x y) (.func fn vx.toArray vy.toArray)
 |yi (r:Nat) (B:eo) (h:E.phi r=So B):Conc E (.f (.yield r) [] []) (.func (.yield B.b) #[] #[])
 |fn0:Conc E .fn0 .nilFunc
 |ifc (t:Nat) (v:AV) (u:Value) (h:Conc E v u):Conc E (.ifc t v) (.iface t u)
 |if0:Conc E .if0 .nilIface
 |ag (l:List AV) (vs:List Value) (h:aH E l vs):Conc E (.ag l) (.agg vs.toArray)
 |tu (l:List AV) (vs:List Value) (h:aH E l vs):Conc E (.tu l) (.tuple vs.toArray)
 |c (r:Nat) (B:eo) (h:E.phi r=So B):Conc E (.c r) (.chan (So B.b))
 |cn:Conc E .cn (.chan No)
inductive aH (E:Env):List AV->List Value->Prop
 |nil:aH E [] []
 |cons (v:AV) (l:List AV) (u:Value) (us:List Value) (h:Conc E v u) (t:aH E l us):aH E (v::l) (u::us)
end
structure Env.le(E F:Env):Prop where
 imm:∀b o,E.imm b=So o->F.imm b=So o
 phi:∀r B,E.phi r=So B->F.phi r=So B
theorem Env.le.refl(E:Env):E.le E:=⟨λ_ _ h=>h,λ_ _ h=>h⟩
theorem Env.le.trans{E F G:Env}(h:E.le F)(k:F.le G):E.le G:=⟨λb o e=>k.imm b o (h.imm b o e),λr B e=>k.phi r B (h.phi r B e)⟩
theorem Env.le.cell{E F:Env}(h:E.le F){b o:Nat}{v:Value}(e:E.cell b o=So v):F.cell b o=So v:=by
 unfold Env.cell at*;cases hb:E.imm b with
 |none=>grind
 |some x=>rw[h.imm b x hb];grind
mutual
theorem Conc.mono{E F:Env}(h:E.le F):∀{v:AV}{u:Value},Conc E v u->Conc F v u
 |_,_,.bad v=>.bad v
 |_,_,.un=>.un
 |_,_,.b x=>.b x
 |_,_,.i k n=>.i k n
 |_,_,.s bs=>.s bs
 |_,_,.p r o B e=>.p r o B (h.phi r B e)
 |_,_,.pn=>.pn
 |_,_,.gp g=>.gp g
 |_,_,.rp c b o vs e hc=>.rp c b o vs (λj v hv=>h.cell (e j v hv)) (aH.mono h hc)
 |_,_,.slk r o n z c a hn e=>.slk r o n z c a hn (e.imp id λ⟨B,h1,h2⟩=>⟨B,h.phi r B h1,h2⟩)
 |_,_,.slu r o n z c a hn e=>.slu r o n z c a hn (e.elim λB hB=>⟨B,h.phi r B hB.1,hB.2⟩)
 |_,_,.sn=>.sn
 |_,_,.rs c n z k b o vs hn e hc=>.rs c n z k b o vs hn (λj v hv=>h.cell (e j v hv)) (aH.mono h hc)
 |_,_,.rs0 c z a k=>.rs0 c z a k
 |_,_,.m r B e=>.m r B (h.phi r B e)
 |_,_,.mn=>.mn
 |_,_,.f fn x y vx vy hf hx hy=>.f fn x y vx vy hf (aH.mono h hx) (aH.mono h hy)
 |_,_,.yi r B e=>.yi r B (h.phi r B e)
 |_,_,.fn0=>.fn0
 |_,_,.ifc t v u e=>.ifc t v u (Conc.mono h e)
 |_,_,.if0=>.if0
 |_,_,.ag l vs e=>.ag l vs (aH.mono h e)
 |_,_,.tu l vs e=>.tu l vs (aH.mono h e)
 |_,_,.c r B e=>.c r B (h.phi r B e)
 |_,_,.cn=>.cn
theorem aH.mono{E F:Env}(h:E.le F):∀{v:List AV}{u:List Value},aH E v u->aH F v u
 |_,_,.nil=>.nil
 |_,_,.cons v l u us e t=>.cons v l u us (Conc.mono h e) (aH.mono h t)
end
section
variable {E:Env}
theorem aH.length{l:List AV}{vs:List Value}(h:aH E l vs):l.length=vs.length:=by
 induction l generalizing vs with
 |nil=>cases h;rfl
 |cons v l ih=>cases h with|cons _ _ u us h t=>grind
theorem aH.get{l:List AV}(h:aH E l vs):∀(j:Nat) (v:AV),l[j]? = So v->∃u,vs[j]? = So u/\Conc E v u:=by
 induction l generalizing vs with
 |nil=>grind
 |cons x l ih=>
  cases h with
  |cons _ _ u us h t=>grind
theorem aH.append{a b:List AV}{x:List Value}(h:aH E a x)(k:aH E b y):aH E (a++b) (x++y):=by
 induction a generalizing x with
 |nil=>cases h;grind
 |cons v l ih=>cases h with|cons _ _ u us h t=>exact .cons _ _ _ _ h (ih t)
theorem aH.take{a:List AV}{x:List Value}(h:aH E a x)(n:Nat):aH E (a.take n) (x.take n):=by
 induction a generalizing x n with
 |nil=>cases h;simp;exact .nil
 |cons v l ih=>
  cases h with
  |cons _ _ u us h t=>
   cases n with
   |zero=>grind
   |succ n=>exact .cons _ _ _ _ h (ih t n)
theorem aH.drop{a:List AV}{x:List Value}(h:aH E a x)(n:Nat):aH E (a.drop n) (x.drop n):=by
 induction a generalizing x n with
 |nil=>cases h;simp;exact .nil
 |cons v l ih=>
  cases h with
  |cons _ _ u us h t=>
   cases n with
   |zero=>exact .cons _ _ _ _ h t
   |succ n=>grind
end
def St.alive(st:St)(r:Nat):Option Row :=
 match st.get r with
 |some (.ce l g)=>match st.live.get g with
  |some al=>cond (mem r al) (So (.ce l g)) No
  |none=>No
 |some (.ty _ _ _)=>No
 |x=>x
theorem St.lA{st:St}{l:List AV}(h:st.ce r=So (l,g,al)):
  st.alive r=So (.ce l g)/\st.live.get g=So al/\mem r al=Tt/\st.get r=So (.ce l g):=by
 unfold St.ce at h;unfold St.alive;split at h
 ·split at h
  ·rename_i al' hl;cases hm:mem r al' with
   |false=>simp_all
   |true=>simp_all
  grind
 grind
theorem mem_iff{l:List Nat}:mem r l=Tt↔r∈l:=by
 induction l with
 |nil=>simp[mem]
 |cons x l ih=>
  by_cases h:x=r
  ·simp[mem,h]
  ·have:Nat.beq x r=false:=by simp[bh,h]
   simp[mem,this,ih,Q2 h]
theorem DG(r:Nat):∀l:List Nat,∃p,l=p++from_ r l
 |[]=>⟨[],rfl⟩
 |x::l=>by
  by_cases h:x=r
  ·exact⟨[],by simp[from_,h]⟩
  ·have⟨p,hp⟩:=DG r l;have:Nat.beq x r=false:=by simp[bh,h]
   exact⟨x::p,by simp[from_,this];grind⟩
theorem vj{l:List Nat}(h:x∈from_ r l):x∈l:=by have⟨p,hp⟩:=DG r l;grind
theorem XH{l:List Nat}(h:r∈l):∃t,from_ r l=r::t:=by
 induction l with
 |nil=>grind
 |cons x l ih=>
  by_cases hx:x=r
  ·subst hx;exact⟨l,by simp[from_]⟩
  ·have hb:Nat.beq x r=false:=by simp[bh,hx]
   have⟨t,ht⟩:=ih (by simpa[Q2 hx]using h);exact⟨t,by simp[from_,hb,ht]⟩
def FZ(E:Env)(e:AV×AV×Nat)(m:MapEntry):Prop:=Conc E e.1 m.key/\Conc E e.2.1 m.val/\m.born=e.2.2
def fA(E:Env):List (AV×AV×Nat)->List MapEntry->Prop
 |[],[]=>True
 |e::es,m::ms=>FZ E e m/\fA E es ms
 |_,_=>False
theorem fA.mono{E F:Env}(h:E.le F):∀{es:List (AV×AV×Nat)}{ms:List MapEntry},fA E es ms->fA F es ms
 |[],[],_=>trivial
 |_::_,_::_,⟨⟨a,b,c⟩,t⟩=>⟨⟨a.mono h,b.mono h,c⟩,fA.mono h t⟩
def ab(t:Tr AV)(x:Nat):AV:=match t.get x with|some v=>v|none=>.un
def bX(E:Env)(nt:Nat)(t:Tr AV)(a:Array Value):Prop:=a.size=nt/\∀x,Conc E (ab t x) (a.getD x undef)
theorem bX.mono{E F:Env}(h:E.le F){nt:Nat}{t:Tr AV}{a:Array Value}(k:bX E nt t a):bX F nt t a:=⟨k.1,λx=>(k.2 x).mono h⟩
def sI(E:Env):List (AV×AV)->List MapEntry->Prop
 |[],[]=>True
 |e::es,m::ms=>(Conc E e.1 m.key/\Conc E e.2 m.val)/\sI E es ms
 |_,_=>False
theorem sI.mono{E F:Env}(h:E.le F):∀{es:List (AV×AV)}{ms:List MapEntry},sI E es ms->sI F es ms
 |[],[],_=>trivial
 |_::_,_::_,⟨⟨a,b⟩,t⟩=>⟨⟨a.mono h,b.mono h⟩,sI.mono h t⟩
def my(n:Nat)(fz:Nat×Nat):Prop:=fz.1=fz.2\/n<=fz.1
theorem my.not(h:my n fz)(off:Nat)(ho:off<n):¬(fz.1<=off/\off<fz.2):=by rcases h with h|h<;>omega
def gE(E:Env)(H:Array Obj)(B:eo):Row->Prop
 | .ce l _=>∃cs t fz,H[B.b]? = So (.cells cs t fz)∧my cs.size fz∧cs.size=B.n∧B.d+l.length≤B.n ∧
   aH E l ((cs.toList.drop B.d).take l.length)
 |.mp es clock=>∃ents,H[B.b]? = So (.map ents clock)/\fA E es ents.toList
 |.si s pos=>B.d=0/\∃str:ByteArray,H[B.b]? = So (.stringIter str pos)/\str.data.toList.map UInt8.toNat=s
 | .mi m since seen stepped=>B.d=0∧∃mm,H[B.b]? = So (.mapIter mm since seen.toArray stepped) ∧
   (match m with|none=>mm=No|some r=>∃Bm,E.phi r=So Bm/\mm=So Bm.b)
 |.lp t nt ps a b=>∃(f:FuncId) (tmps:Array Value) (d:Nat),H[B.b]? = So (.loop {state:=.ready,pending:=No,fn:=f,tmps,params:=ps.toArray,assign:=a,body:=b,defers:=d})/\bX E nt t tmps
 |.mu es=>∃ents clock ms,H[B.b]? = So (.map ents clock)/\sI E es ms/\ents.toList.Perm ms
 |.ch cap buf=>∃(s r:Nat) (us:List Value),H[B.b]? = So (.chan cap us.toArray Ff s r Ff)/\aH E buf us
 |.ty _ _ _=>False
def wV:Array Value:=((List.range 20).map λk=>Value.int .u64 ((10 ^ k:Nat):Int)).toArray
def nj(E:Env)(H:Array Obj)(t r0:Nat):Bool->Prop
 |true=>∃B,E.phi r0=So B/\(Tt=Tt->B.d=0)/\∃(cs:Array Value) (fz:Nat×Nat),H[B.b]? = So (Obj.cells cs t fz)
 |false=>∃(ty:TypeId) (fz:Nat×Nat),E.imm r0=So (.cells wV ty fz)
def dZ(H H':Array Obj):Prop:=∀(b:Nat) (cs:Array Value) (t:TypeId) (fz:Nat×Nat),H[b]? = So (Obj.cells cs t fz)->∃(cs':Array Value) (fz':Nat×Nat),H'[b]? = So (Obj.cells cs' t fz')
theorem nj.mono{E F:Env}(hE:E.le F)(hH:dZ H H'){t r0:Nat}:∀{x:Bool},nj E H t r0 x->nj F H' t r0 x
 |true,⟨B,h1,h2,cs,fz,h3⟩=>⟨B,hE.phi _ _ h1,h2,hH _ _ _ _ h3⟩
 |false,⟨ty,fz,h⟩=>⟨ty,fz,hE.imm _ _ h⟩
theorem dZ.refl(H:Array Obj):dZ H H:=λ_ cs _ fz h=>⟨cs,fz,h⟩
theorem dZ.push(H:Array Obj)(o:Obj):dZ H (H.push o):=λb cs t fz h=>by grind
theorem dZ.set{cs cs':Array Value}{t:TypeId}{fz':Nat×Nat}(hb:H[b]? = So (.cells cs t fz)):dZ H (H.setIfInBounds b (.cells cs' t fz')):=λc cs1 t1 fz1 h=>by grind
theorem dZ.zd{o:Obj}(hb:∀cs t fz,H[b]?≠So (.cells cs t fz)):dZ H (H.setIfInBounds b o):=λc cs1 t1 fz1 h=>by grind
theorem dZ.Ey(h:∀b,b<H.size->H'[b]? = H[b]?):dZ H H':=λb cs t fz hb=>⟨cs,fz,by grind⟩
theorem gE.mono{E F:Env}{H H':Array Obj}{B:eo}(h:E.le F)(hb:H'[B.b]? = H[B.b]?):∀{row:Row},gE E H B row->gE F H' B row
 |.ce _ _,⟨cs,t,fz,a,b,c,d,e⟩=>⟨cs,t,fz,hb▸a,b,c,d,e.mono h⟩
 |.mp _ _,⟨ents,a,b⟩=>⟨ents,hb▸a,b.mono h⟩
 |.si _ _,⟨z,str,a,b⟩=>⟨z,str,hb▸a,b⟩
 |.mi m _ _ _,⟨z,mm,a,b⟩=>⟨z,mm,hb▸a,by
   cases m with
   |none=>grind
   |some r=>have⟨Bm,h1,h2⟩:=b;exact⟨Bm,h.phi r Bm h1,h2⟩⟩
 |.lp _ _ _ _ _,⟨f,tmps,d,a,b⟩=>⟨f,tmps,d,hb▸a,b.mono h⟩
 |.mu _,⟨ents,c,ms,a,b,d⟩=>⟨ents,c,ms,hb▸a,b.mono h,d⟩
 |.ch _ _,⟨s,r,us,a,b⟩=>⟨s,r,us,hb▸a,b.mono h⟩
 |.ty _ _ _,h=>h.elim
theorem gE.lt{E:Env}{B:eo}{row:Row}(h:gE E H B row):B.b<H.size:=by
 have:∃o,H[B.b]? = So o:=by
  cases row with
  |ce=>have⟨_,_,_,a,_⟩:=h;grind
  |mp=>have⟨_,a,_⟩:=h;grind
  |si=>have⟨_,_,a,_⟩:=h;grind
  |mi=>have⟨_,_,a,_⟩:=h;grind
  |lp=>have⟨_,_,_,a,_⟩:=h;grind
  |mu=>have⟨_,_,_,a,_⟩:=h;grind
  |ch=>have⟨_,_,_,a,_⟩:=h;grind
  |ty=>exact h.elim
 grind
def uj(E:Env)(st:St)(g x y:Nat):Prop :=
 ∀lx ly Bx By,st.get x=So (.ce lx g)->st.get y=So (.ce ly g)->E.phi x=So Bx->E.phi y=So By->Bx.b=By.b->By.d+ly.length<=Bx.d+lx.length
structure Rel(E:Env)(H:Array Obj)(st:St):Prop where
 imm:∀b o,E.imm b=So o->H[b]? = So o
 fresh:∀r,st.next<=r->r<E.top->E.phi r=No
 freshRow:∀r,st.next<=r->st.get r=No
 freshG:∀g,st.next<=g->st.live.get g=No
 liveLt:∀g al x,st.live.get g=So al->x∈al->x<st.next
 rows:∀r row,st.alive r=So row->∃B,E.phi r=So B/\gE E H B row
 own:∀r row B,st.alive r=So row->E.phi r=So B->E.imm B.b=No
 sep:∀r r' row row' B B',st.alive r=So row->st.alive r'=So row'->E.phi r=So B->E.phi r'=So B'->B.b=B'.b->
  r=r'\/∃g l l',row=.ce l g/\row'=.ce l' g
 ends:∀g al,st.live.get g=So al->al.Pairwise (uj E st g)
 tys:∀r t r0 x,st.get r=So (.ty t r0 x)->nj E H t r0 x
theorem gE.ZP{E:Env}{B:eo}{row:Row}(h:gE E H B row)(hce:∀l g,row≠.ce l g):∀cs t fz,H[B.b]?≠So (.cells cs t fz):=by
 intro cs t fz e;cases row with
 |ce l g=>grind
 |mp=>have⟨_,a,_⟩:=h;grind
 |si=>have⟨_,_,a,_⟩:=h;grind
 |mi=>have⟨_,_,a,_⟩:=h;grind
 |lp=>have⟨_,_,_,a,_⟩:=h;grind
 |mu=>have⟨_,_,_,a,_⟩:=h;grind
 |ch=>have⟨_,_,_,a,_⟩:=h;grind
 |ty=>exact h
def Env.bind(E:Env)(r:Nat)(B:eo):Env:=⟨E.imm,λx=>if x=r then So B else E.phi x,E.top⟩
theorem Env.mS{E:Env}{B:eo}(h:E.phi r=No):E.le (E.bind r B):=
 ⟨λ_ _ h=>h,λx C hx=>by grind[Env.bind]⟩
theorem Env.df{E:Env}{B:eo}:(E.bind r B).phi r=So B:=by simp[Env.bind]
theorem Env.cG{E:Env}{B:eo}(h:x≠r):(E.bind r B).phi x=E.phi x:=by simp[Env.bind,h]
section
variable {E:Env}{st:St}
theorem Rel.zS(h:Rel E H st){row:Row}(ha:st.alive r=So row):r<st.next:=by
 rcases Q3 r st.next with hl|hl
 ·grind
 ·have:=h.freshRow r hl;simp[St.alive,this]at ha
theorem Rel.kZ{row:Row}(ha:st.alive r=So row):st.get r=So row:=by grind[St.alive]
theorem Rel.wG(h:Rel E H st){o:Obj}(hb:E.imm b=So o):b<H.size :=
 (Q4.1 (h.imm b o hb)).1
theorem Rel.push(h:Rel E H st)(hn:st.next<E.top)(o:Obj)(n:Nat)(row:Row)(st':St)
  (hget:∀r,st'.get r=if r=st.next then So row else st.get r) (hnext:st'.next=st.next+1)
  (hlive:∀g,st'.live.get g=st.live.get g\/(g=st.next/\st'.live.get g=So [st.next]))
  (hce:∀l g,row=.ce l g->g=st.next)
  (hrow:gE (E.bind st.next ⟨H.size,0,n⟩) (H.push o) ⟨H.size,0,n⟩ row):
  Rel (E.bind st.next ⟨H.size,0,n⟩) (H.push o) st':=by
 have hle:E.le (E.bind st.next ⟨H.size,0,n⟩):=Env.mS (h.fresh _ (Q0 _) hn);have hold:∀b,b<H.size->(H.push o)[b]? = H[b]?:=λb hb=>by grind
 have hal:∀r x,st'.alive r=So x->(r=st.next/\x=row)\/(r≠st.next/\st.alive r=So x):=by grind[St.alive,mem_iff]
 refine⟨?_,?_,?_,?_,?_,?_,?_,?_,?_,?_⟩
 ·intro b o' hb;have hb':E.imm b=So o':=hb;rw[hold b (h.wG hb')];exact h.imm b o' hb'
 ·intro r hr ht;rw[Env.cG (by omega)];exact h.fresh r (by omega) ht
 ·intro r hr;rw[hget,if_neg (by omega)];exact h.freshRow r (by omega)
 ·intro g hg;rcases hlive g with hh|⟨rfl,_⟩
  ·rw[hh];exact h.freshG g (by omega)
  grind
 ·intro g al x hg hx;rcases hlive g with hh|⟨rfl,hh⟩
  ·rw[hh]at hg;have:=h.liveLt g al x hg hx;omega
  grind
 ·intro r x hx;rcases hal r x hx with ⟨rfl,rfl⟩|⟨hne,hx'⟩
  ·exact⟨_,Env.df,hrow⟩
  ·have⟨B,hB,hR⟩:=h.rows r x hx';exact⟨B,by rw[Env.cG hne];grind,hR.mono hle (hold _ hR.lt)⟩
 ·intro r x B hx hB;rcases hal r x hx with ⟨rfl,rfl⟩|⟨hne,hx'⟩
  ·rw[Env.df]at hB;cases hB;show E.imm H.size=No
   cases hi:E.imm H.size with
   |none=>rfl
   |some o'=>exact absurd (h.wG hi) (Q9 _)
  ·rw[Env.cG hne]at hB;exact h.own r x B hx' hB
 ·intro r r' x x' B B' hx hx' hB hB' hb;rcases hal r x hx with ⟨rfl,rfl⟩|⟨hne,hx1⟩<;>rcases hal r' x' hx' with ⟨rfl,rfl⟩|⟨hne',hx1'⟩
  ·grind
  ·rw[Env.df]at hB;rw[Env.cG hne']at hB';have⟨C,hC,hR⟩:=h.rows r' x' hx1';rw[hB']at hC;have:=hR.lt;grind
  ·rw[Env.df]at hB';cases hB';rw[Env.cG hne]at hB;have⟨C,hC,hR⟩:=h.rows r x hx1;rw[hB]at hC;cases hC;have:=hR.lt;grind
  ·rw[Env.cG hne]at hB;rw[Env.cG hne']at hB';exact h.sep r r' x x' B B' hx1 hx1' hB hB' hb
 ·intro g al hg;rcases hlive g with hh|⟨rfl,hh⟩
  ·rw[hh]at hg;refine(h.ends g al hg).imp_of_mem ?_;intro x y hx hy hxy lx ly Bx By h1 h2 h3 h4 h5;have hxn:x≠st.next:=by have:=h.liveLt g al x hg hx;omega
   have hyn:y≠st.next:=by have:=h.liveLt g al y hg hy;omega
   rw[hget,if_neg hxn]at h1;rw[hget,if_neg hyn]at h2;rw[Env.cG hxn]at h3;rw[Env.cG hyn]at h4;exact hxy lx ly Bx By h1 h2 h3 h4 h5
  grind
 ·intro r t r0 x hx;rw[hget]at hx;split at hx
  ·cases hx;exact(show False from hrow).elim
  ·exact(h.tys r t r0 x hx).mono hle (dZ.push H o)
theorem St.pU(st:St)(l:List AV)(r:Nat):(st.aj l).get r=if r=st.next then So (.ce l st.next) else st.get r:=by simp[St.aj,St.get,Tr.cW]
theorem St.oG(st:St)(w:Row)(r:Nat):(st.new w).get r=if r=st.next then So w else st.get r:=by simp[St.new,St.get,Tr.cW]
theorem Rel.aj(h:Rel E H st)(hn:st.next<E.top)(l:List AV)(vs:List Value)(t:TypeId)(fz:Nat×Nat)(hfz:my vs.length fz)
  (hl:l.length<=vs.length) (hc:aH E l (vs.take l.length)):
  Rel (E.bind st.next ⟨H.size,0,vs.length⟩) (H.push (.cells vs.toArray t fz)) (st.aj l):=by
 have hle:E.le (E.bind st.next ⟨H.size,0,vs.length⟩):=Env.mS (h.fresh _ (Q0 _) hn);refine h.push hn _ _ (.ce l st.next) _ (St.pU st l) rfl ?_ ?_ ?_
 ·grind[St.aj,Tr.cW]
 ·grind
 ·exact⟨vs.toArray,t,fz,by simp,by grind,by simp,by grind,by simpa using hc.mono hle⟩
theorem Rel.newRow(h:Rel E H st)(hn:st.next<E.top)(o:Obj)(row:Row)(hce:∀l g,row≠.ce l g)
  (hrow:∀F,E.le F->gE F (H.push o) ⟨H.size,0,0⟩ row):
  Rel (E.bind st.next ⟨H.size,0,0⟩) (H.push o) (st.new row):=by
 have hle:E.le (E.bind st.next ⟨H.size,0,0⟩):=Env.mS (h.fresh _ (Q0 _) hn);exact h.push hn _ _ row _ (St.oG st row) rfl (λg=>.inl rfl) (λl g e=>absurd e (hce l g)) (hrow _ hle)
theorem Rel.putRow(h:Rel E H st){row row':Row}{B:eo}(ha:st.alive r=So row)(hB:E.phi r=So B)(hce:∀l g,row≠.ce l g)(hce':∀l g,row'≠.ce l g)(o:Obj)
  (hrow:∀H',H'[B.b]? = So o->gE E H' B row'):Rel E (H.setIfInBounds B.b o) (st.put r row'):=by
 have hlt:B.b<H.size:=by have⟨C,hC,hR⟩:=h.rows r row ha;rw[hB]at hC;cases hC;exact hR.lt
 have hget:∀x,(st.put r row').get x=if x=r then So row' else st.get x:=λx=>by simp[St.put,St.get,Tr.cW]
 have hal:∀x w,(st.put r row').alive x=So w->(x=r/\w=row')\/(x≠r/\st.alive x=So w):=by
  intro x w hx;by_cases e:x=r
  ·have:=Rel.kZ hx;grind
  ·right;refine⟨e,?_⟩;unfold St.alive at hx|-;rw[hget,if_neg e]at hx;exact hx
 have hne:∀x w C,x≠r->st.alive x=So w->E.phi x=So C->C.b≠B.b:=by
  intro x w C hx hw hC e;rcases h.sep x r w row C B hw ha hC hB e with rfl|⟨g,l,l',_,rfl⟩
  ·exact hx rfl
  ·exact hce l' g rfl
 have hother:∀b,b≠B.b->(H.setIfInBounds B.b o)[b]? = H[b]?:=λb hb=>by grind
 refine⟨?_,h.fresh,?_,h.freshG,h.liveLt,?_,?_,?_,?_,?_⟩
 ·intro b o' hb;have:b≠B.b:=by
   have:=h.own r row B ha hB;grind
  rw[hother b this];exact h.imm b o' hb
 ·intro x hx;have hx':st.next<=x:=hx;rw[hget,if_neg (by have:=h.zS ha;omega)];exact h.freshRow x hx'
 ·intro x w hx;rcases hal x w hx with ⟨rfl,rfl⟩|⟨hxr,hw⟩
  ·grind
  ·have⟨C,hC,hR⟩:=h.rows x w hw;exact⟨C,hC,hR.mono (Env.le.refl E) (hother _ (hne x w C hxr hw hC))⟩
 ·intro x w C hx hC;rcases hal x w hx with ⟨rfl,rfl⟩|⟨_,hw⟩
  ·rw[hB]at hC;cases hC;exact h.own x row B ha hB
  ·exact h.own x w C hw hC
 ·intro x x' w w' C C' hx hx' hC hC' hb;rcases hal x w hx with ⟨rfl,rfl⟩|⟨hxr,hw⟩<;>rcases hal x' w' hx' with ⟨rfl,rfl⟩|⟨hxr',hw'⟩
  ·grind
  ·grind
  ·grind
  ·exact h.sep x x' w w' C C' hw hw' hC hC' hb
 ·intro g al hg;refine(h.ends g al hg).imp ?_;intro x y hxy lx ly Bx By h1 h2 h3 h4 h5;rw[hget]at h1 h2;by_cases e1:x=r
  ·grind
  ·by_cases e2:y=r
   ·grind
   ·rw[if_neg e1]at h1;rw[if_neg e2]at h2;exact hxy lx ly Bx By h1 h2 h3 h4 h5
 ·intro x t r0 q hx;rw[hget]at hx;split at hx
  ·cases hx;exact(show False from hrow (H.setIfInBounds B.b o) (by grind)).elim
  ·refine(h.tys x t r0 q hx).mono (.refl E) (dZ.zd ?_);have⟨C,hC,hR⟩:=h.rows r row ha;rw[hB]at hC;cases hC;exact hR.ZP hce
end
def jh(E:Env)(st:St)(b:Nat):Prop:=∃r row B,st.alive r=So row/\E.phi r=So B/\B.b=b
def Un(E:Env)(st:St)(b:Nat):Prop:=¬jh E st b/\E.imm b=No
structure Fr(E E':Env)(H H':Array Obj)(st st':St):Prop where
 size:H.size<=H'.size
 keep:∀b,b<H.size->¬jh E st b->H'[b]? = H[b]?
 own:∀b,jh E' st' b->H.size<=b\/jh E st b
theorem Fr.refl(E:Env)(H:Array Obj)(st:St):Fr E E H H st st:=⟨Q0 _,λ_ _ _=>rfl,λ_ h=>.inr h⟩
theorem Fr.trans{E E' E'':Env}{st st' st'':St}(h:Fr E E' H H' st st')(k:Fr E' E'' H' H'' st' st''):Fr E E'' H H'' st st'' :=
 ⟨J1 h.size k.size,λb hb ho=>by
  rw[k.keep b (J3 hb h.size) (λho'=>(h.own b ho').elim (λhh=>absurd hb (J4.2 hh)) ho)];exact h.keep b hb ho,λb hb=>by
  rcases k.own b hb with hh|hh
  ·exact .inl (J1 h.size hh)
  ·exact h.own b hh⟩
structure Step(E E':Env)(H H':Array Obj)(st st':St):Prop where
 le:E.le E'
 imm:∀b,b<H.size->¬jh E st b->E.imm b=No->E'.imm b=No
 top:E'.top=E.top
 rel:Rel E' H' st'
 fr:Fr E E' H H' st st'
theorem Step.refl{E:Env}{H:Array Obj}{st:St}(h:Rel E H st):Step E E H H st st:=⟨.refl E,λ_ _ _ h=>h,rfl,h,.refl E H st⟩
theorem Step.trans{E E' E'':Env}{H H' H'':Array Obj}{st st' st'':St}(h:Step E E' H H' st st')(k:Step E' E'' H' H'' st' st''):Step E E'' H H'' st st'' :=
 ⟨h.le.trans k.le,λb hb ho hi=>k.imm b (J3 hb h.fr.size) (λho'=>(h.fr.own b ho').elim (λhh=>absurd hb (J4.2 hh)) ho) (h.imm b hb ho hi),k.top.trans h.top,k.rel,h.fr.trans k.fr⟩
structure aR(E E':Env)(w w':World)(st st':St):Prop extends Step E E' w.heap w'.heap st st' where
 os:w'.os=w.os
 out:w'.output=w.output
theorem aR.refl{E:Env}{w:World}{st:St}(h:Rel E w.heap st):aR E E w w st st:=⟨.refl h,rfl,rfl⟩
theorem aR.trans{E E' E'':Env}{w w' w'':World}{st st' st'':St}(h:aR E E' w w' st st')(k:aR E' E'' w' w'' st' st''):aR E E'' w w'' st st'' :=
 ⟨h.toStep.trans k.toStep,k.os.trans h.os,k.out.trans h.out⟩
theorem aR.of{E E':Env}{st st':St}(h:Step E E' w.heap H st st'):aR E E' w {w with heap:=H} st st':=⟨h,rfl,rfl⟩
section
variable {E:Env}{st:St}
theorem Step.aj(h:Rel E H st)(hn:st.next<E.top)(l:List AV)(vs:List Value)(t:TypeId)(fz:Nat×Nat)(hfz:my vs.length fz)
  (hl:l.length<=vs.length) (hc:aH E l (vs.take l.length)):
  Step E (E.bind st.next ⟨H.size,0,vs.length⟩) H (H.push (.cells vs.toArray t fz)) st (st.aj l):=by
 refine⟨Env.mS (h.fresh _ (Q0 _) hn),λ_ _ _ h=>h,rfl,h.aj hn l vs t fz hfz hl hc,by simp,?_,?_⟩
 ·grind
 ·rintro b ⟨r,row,B,ha,hB,rfl⟩;by_cases e:r=st.next
  ·grind[Env.df]
  ·right;rw[Env.cG e]at hB;refine⟨r,row,B,?_,hB,rfl⟩;grind[St.pU,St.alive,St.aj,Tr.cW,mem_iff]
theorem Step.newRow(h:Rel E H st)(hn:st.next<E.top)(o:Obj)(row:Row)(hce:∀l g,row≠.ce l g)
  (hrow:∀F,E.le F->gE F (H.push o) ⟨H.size,0,0⟩ row):
  Step E (E.bind st.next ⟨H.size,0,0⟩) H (H.push o) st (st.new row):=by
 refine⟨Env.mS (h.fresh _ (Q0 _) hn),λ_ _ _ h=>h,rfl,h.newRow hn o row hce hrow,by simp,?_,?_⟩
 ·grind
 ·rintro b ⟨r,row',B,ha,hB,rfl⟩;by_cases e:r=st.next
  ·grind[Env.df]
  ·right;rw[Env.cG e]at hB;refine⟨r,row',B,?_,hB,rfl⟩;unfold St.alive at ha|-;rw[St.oG,if_neg e]at ha;exact ha
theorem Step.putRow(h:Rel E H st){r:Nat}{row row':Row}{B:eo}(ha:st.alive r=So row)(hB:E.phi r=So B)(hce:∀l g,row≠.ce l g)(hce':∀l g,row'≠.ce l g)(o:Obj)
  (hrow:∀H',H'[B.b]? = So o->gE E H' B row'):Step E E H (H.setIfInBounds B.b o) st (st.put r row'):=by
 refine⟨.refl E,λ_ _ _ h=>h,rfl,h.putRow ha hB hce hce' o hrow,by simp,?_,?_⟩
 ·intro b hb ho;have:b≠B.b:=by rintro rfl;exact ho ⟨r,row,B,ha,hB,rfl⟩
  grind
 ·rintro b ⟨x,w,C,hx,hC,rfl⟩;right;by_cases e:x=r
  ·subst e;rw[hB]at hC;cases hC;exact⟨x,row,B,ha,hB,rfl⟩
  ·refine⟨x,w,C,?_,hC,rfl⟩;grind[St.alive,St.put,St.get,Tr.cW]
end
theorem Qd:∀(l vs:List α),(over l vs).length=l.length
 |[],[]=>rfl
 |[],_::_=>rfl
 |_::_,[]=>rfl
 |_::l,_::vs=>by simp[over,Qd l vs]
theorem tH:∀(l:List α) (o:Nat) (vs:List α),(aW l o vs).length=l.length
 |l,0,vs=>by simp[aW,Qd]
 |[],_+1,_=>rfl
 |_::l,o+1,vs=>by simp[aW,tH l o vs]
theorem Qc:∀(l vs:List α),vs.length<=l.length->over l vs=vs++l.drop vs.length
 |[],[],_=>rfl
 |[],_::_,h=>by grind
 |_::_,[],_=>by simp[over]
 |_::l,_::vs,h=>by simp[over,Qc l vs (by grind)]
theorem mg:∀(l:List α) (o:Nat) (vs:List α),o+vs.length<=l.length->aW l o vs=l.take o++vs++l.drop (o+vs.length)
 |l,0,vs,h=>by simp[aW,Qc l vs (by grind)]
 |[],o+1,vs,h=>by grind
 |x::l,o+1,vs,h=>by
  have h':o+vs.length<=l.length:=by grind
  simp[aW,mg l o vs h'];grind
theorem aaM(l:List α)(k:Nat)(vs:List α)(d n:Nat)(hk:k+vs.length<=l.length)(h:d+n<=k):
  ((aW l k vs).drop d).take n=(l.drop d).take n:=by
 rw[mg l k vs hk];apply Q5;grind[Q6]
theorem aaN(l:List α)(d o:Nat)(vs:List α)(n:Nat)(h:o+vs.length<=n)(hl:d+n<=l.length):
  ((aW l (d+o) vs).drop d).take n=aW ((l.drop d).take n) o vs:=by
 rw[mg l (d+o) vs (by omega),mg _ o vs (by grind)];apply Q5;intro j;by_cases hj:j<n
 ·simp[J5,J6];grind
 ·rw[Q1 (by grind),Q1 (by grind)]
theorem aH.aW{E:Env}{a b:List AV}{x y:List Value}(h:aH E a x)(k:aH E b y)(o:Nat)(ho:o+b.length<=a.length):aH E (aW a o b) (aW x o y):=by have h1:=h.length;have h2:=k.length;rw[mg a o b ho,mg x o y (by omega),h2];exact((h.take o).append k).append (h.drop _)
theorem Sf:∀{n:Nat}{l r:List AV},takeN n l=So r->r=l.take n/\n<=l.length
 |0,l,r,h=>by simp[takeN]at h;grind
 |n+1,[],r,h=>by simp[takeN]at h
 |n+1,v::l,r,h=>by
  simp[takeN]at h;split at h
  ·rename_i r' hr;obtain⟨rfl,hl⟩:=Sf hr;cases h;exact⟨by simp,by simpa using hl⟩
  ·cases h
theorem pQ:∀{l:List AV}{o n:Nat}{r:List AV},cut l o n=So r->r=(l.drop o).take n/\(o+n<=l.length\/n=0)
 |l,0,n,r,h=>by
  have h':takeN n l=So r:=by cases l<;>exact h
  grind[Sf]
 |[],o+1,n,r,h=>by
  simp[cut,bh]at h;by_cases hn:n=0
  ·subst hn;simp at h;subst h;simp
  ·simp[hn]at h
 |v::l,o+1,n,r,h=>by simp[cut]at h;have⟨h1,h2⟩:=pQ h;exact⟨by simpa using h1,by rcases h2 with h2|h2<;>simp<;>omega⟩
theorem lW{l:List AV}{r:List AV}(h:cut l o n=So r):r.length=n:=by obtain⟨rfl,h2⟩:=pQ h;grind
theorem Yx{E:Env}{v:AV}{u:Value}(h:Conc E v u)(hs:bR v=Tt):u.oneCell'=true:=by cases h<;>first|rfl|simp[bR]at hs
theorem Gr{E:Env}:∀{l:List AV}{us:List Value},aH E l us->bH l=Tt->∀u∈us,u.oneCell'=Tt
 |[],[],_,_=>by simp
 |v::l,u::us,.cons _ _ _ _ h t,hs=>by
  cases hv:bR v with
  |false=>simp[bH,hv]at hs
  |true=>
   simp[bH,hv]at hs;intro x hx;rcases List.mem_cons.1 hx with rfl|hx
   ·exact Yx h hv
   ·exact Gr t hs x hx
theorem xg(P:Program)(b o:Nat)(t:TypeId)(fz:Nat×Nat):∀(vs:List Value) (i:Nat) (cs:List Value) (w:World),
  w.heap[b]? = So (.cells cs.toArray t fz)->(∀off,off<cs.length->¬(fz.1<=off/\off<fz.2))->o+i+vs.length<=cs.length->(∀v∈vs,v.oneCell'=Tt)->
  (storeCells ⟨b,o,No⟩ vs i).run P w=.ok () {w with heap:=w.heap.setIfInBounds b (.cells (aW cs (o+i) vs).toArray t fz)}
 |[],i,cs,w,hw,_,_,_=>by
  have:aW cs (o+i) []=cs:=by simp_all[mg]
  simp[storeCells,this];cases w;grind[World.mk.injEq]
 |v::vs,i,cs,w,hw,hf,hl,h1=>by
  have hadd:Addr.add ⟨b,o,No⟩ i=⟨b,o+i,No⟩:=by grind[Addr.add]
  have hlen:o+i<cs.length:=by grind
  have hcell:w.cell? ⟨b,o+i,No⟩=So (cs[o+i]):=by simp[World.cell?,hw,hlen]
  have hfr:w.frozen? ⟨b,o+i,No⟩=false:=by grind[World.frozen?]
  have hset:w.setCell ⟨b,o+i,No⟩ v={w with heap:=w.heap.setIfInBounds b (.cells (cs.set (o+i) v).toArray t fz)}:=by simp[World.setCell];grind
  have ih:=xg P b o t fz vs (i+1) (cs.set (o+i) v) {w with heap:=w.heap.setIfInBounds b (.cells (cs.set (o+i) v).toArray t fz)}
   (by grind) (by grind) (by grind) (λx hx=>h1 x (by grind))
  simp[storeCells,hadd,run_store P w _ v _ (h1 v (by simp)),hcell,hfr,hset,Result.andThen];have e2:aW (cs.set (o+i) v) (o+(i+1)) vs=aW cs (o+i) (v::vs):=by
   rw[mg _ _ _ (by grind),mg _ _ _ (by grind)];have ht:(cs.set (o+i) v).take (o+(i+1))=cs.take (o+i)++[v]:=by grind[List.take_succ_eq_append_getElem,List.take_set,List.set_eq_of_length_le]
   grind[List.drop_set_of_lt]
  simp_all
section
variable {E:Env}{st:St}
theorem Rel.cells(h:Rel E H st){r:Nat}{l:List AV}{g:Nat}{al:List Nat}(hr:st.ce r=So (l,g,al)):
  ∃(B:eo) (cs:List Value) (t:TypeId) (fz:Nat×Nat),E.phi r=So B/\H[B.b]? = So (.cells cs.toArray t fz)/\my cs.length fz/\cs.length=B.n/\
   B.d+l.length<=B.n/\aH E l ((cs.drop B.d).take l.length):=by
 obtain⟨ha,-,-,-⟩:=St.lA hr;have⟨B,hB,cs,t,fz,h1,h2,h3,h4,h5⟩:=h.rows r _ ha;exact⟨B,cs.toList,t,fz,hB,by omega,by grind,by grind,h4,h5⟩
theorem Rel.Sl(h:Rel E H st){E':Env}{st':St}{o:Obj}(hb:b<H.size)(hbi:E.imm b=No)
  (hle:E.le E') (himm:E'.imm=E.imm) (hphi:∀x,x<st.next->E'.phi x=E.phi x)
  (hnext:st.next<=st'.next) (htop:E'.top=E.top) (hfresh:∀r,st'.next<=r->(r<E.top->E'.phi r=No)/\st'.get r=No) (hg:∀g,st'.next<=g->st'.live.get g=No)
  (hll:∀g al x,st'.live.get g=So al->x∈al->x<st'.next)
  (hal:∀x w,st'.alive x=So w->(x<st.next/\st.alive x=So w/\(∀C,E.phi x=So C->C.b=b->gE E' (H.setIfInBounds b o) C w))\/
   (∃C,E'.phi x=So C/\C.b=b/\gE E' (H.setIfInBounds b o) C w))
  (hsep:∀x x' w w' C C',st'.alive x=So w->st'.alive x'=So w'->E'.phi x=So C->E'.phi x'=So C'->C.b=b->C'.b=b->x=x'\/∃g l l',w=.ce l g/\w'=.ce l' g)
  (hends:∀g al,st'.live.get g=So al->al.Pairwise (uj E' st' g))
  (hty:∀r t r0 x,st'.get r=So (.ty t r0 x)->st.get r=So (.ty t r0 x)) (htk:dZ H (H.setIfInBounds b o)):
  Rel E' (H.setIfInBounds b o) st':=by
 have hother:∀c,c≠b->(H.setIfInBounds b o)[c]? = H[c]?:=λc hc=>by grind
 refine⟨?_,λr hr ht=>(hfresh r hr).1 (htop▸ht),λr hr=>(hfresh r hr).2,hg,hll,?_,?_,?_,hends,λr t r0 x hx=>(h.tys r t r0 x (hty r t r0 x hx)).mono hle htk⟩
 ·intro c o' hc;rw[himm]at hc;have:c≠b:=by grind
  rw[hother c this];exact h.imm c o' hc
 ·intro x w hx;rcases hal x w hx with ⟨hlt,hw,hin⟩|⟨C,hC,-,hR⟩
  ·have⟨C,hC,hR⟩:=h.rows x w hw;refine⟨C,hle.phi x C hC,?_⟩;by_cases e:C.b=b
   ·grind
   ·exact hR.mono hle (hother _ e)
  grind
 ·intro x w C hx hC;rw[himm];rcases hal x w hx with ⟨hlt,hw,-⟩|⟨C',hC',hb',-⟩
  ·rw[hphi x hlt]at hC;exact h.own x w C hw hC
  grind
 ·intro x x' w w' C C' hx hx' hC hC' hcc;by_cases e:C.b=b
  ·grind
  ·rcases hal x w hx with ⟨hlt,hw,-⟩|⟨D,hD,hb',-⟩
   ·rcases hal x' w' hx' with ⟨hlt',hw',-⟩|⟨D,hD,hb',-⟩
    ·rw[hphi x hlt]at hC;rw[hphi x' hlt']at hC';exact h.sep x x' w w' C C' hw hw' hC hC' hcc
    grind
   grind
theorem Rel.wt(h:Rel E H st){r o:Nat}{vs:List AV}{us:List Value}{st':St}(hw:wt st r o vs=So st')(hc:aH E vs us):
  ∃(B:eo) (cs:List Value) (t:TypeId) (fz:Nat×Nat),E.phi r=So B/\H[B.b]? = So (.cells cs.toArray t fz)/\my cs.length fz/\
   (o+B.d)+us.length<=cs.length/\(∀u∈us,u.oneCell'=Tt)/\Rel E (H.setIfInBounds B.b (.cells (aW cs (o+B.d) us).toArray t fz)) st':=by
 unfold Ev.wt at hw;cases hr:st.ce r with
 |none=>grind
 |some x=>
  have⟨l,g,al⟩:=x;simp[hr]at hw;cases hb:Nat.ble (o+vs.length) l.length with
  |false=>simp_all
  |true=>
   cases hs:bH vs with
   |false=>simp_all
   |true=>
    simp[hb,hs]at hw;have hle:=Nat.le_of_ble_eq_true hb;have⟨ha,hlg,hm,hget⟩:=St.lA hr;have⟨B,cs,t,fz,hB,hH,hfz,hn,hd,hC⟩:=h.cells hr;have hlen:=hc.length;refine⟨B,cs,t,fz,hB,hH,hfz,by omega,Gr hc hs,?_⟩;have hlt:B.b<H.size:=(Q4.1 hH).1;subst hw;have hget':∀x,(St.mk (st.rows.set r (So (.ce (aW l o vs) g))) (st.live.set g (So [r])) st.next).get x=if x=r then So (.ce (aW l o vs) g) else st.get x:=λx=>by simp[St.get,Tr.cW]
    have hrlt:=h.zS ha;have hal:∀x w,(St.mk (st.rows.set r (So (.ce (aW l o vs) g))) (st.live.set g (So [r])) st.next).alive x=So w->
      (x=r/\w=.ce (aW l o vs) g)\/(x≠r/\st.alive x=So w/\∀lx,w≠.ce lx g):=by
     grind[Rel.kZ,St.alive,Tr.cW,mem_iff]
    have hne:∀x w C,x≠r->st.alive x=So w->(∀lx,w≠.ce lx g)->E.phi x=So C->C.b≠B.b:=by
     intro x w C hx hw hng hC e;rcases h.sep x r w _ C B hw ha hC hB e with rfl|⟨g',l1,l2,rfl,h2⟩
     ·exact hx rfl
     ·cases h2;exact hng l1 rfl
    refine h.Sl hlt (h.own r _ B ha hB) (Env.le.refl E) rfl (λ_ _=>rfl) (Q0 _) rfl ?_ ?_ ?_ ?_ ?_ ?_ (λx t' r0 q hx=>by grind) (dZ.set hH)
    ·intro x hx;exact⟨λht=>h.fresh x hx ht,by rw[hget',if_neg (by grind)];exact h.freshRow x hx⟩
    ·intro g' hg';have:g≠g':=by rintro rfl;rw[h.freshG g hg']at hlg;grind
     simp[Tr.cW,if_neg (Q2 this)];exact h.freshG g' hg'
    ·intro g' al' x hg' hx;simp[Tr.cW]at hg';by_cases eg:g'=g
     ·grind
     ·rw[if_neg eg]at hg';exact h.liveLt g' al' x hg' hx
    ·intro x w hx;rcases hal x w hx with ⟨rfl,rfl⟩|⟨hxr,hw,hng⟩
     ·right;refine⟨B,hB,rfl,(aW cs (o+B.d) us).toArray,t,fz,by grind,?_,?_,?_,?_⟩
      ·simpa[tH]using hfz
      ·simpa[tH]using hn
      ·rw[tH];grind
      ·rw[tH];have:=aaN cs B.d o us l.length (by omega) (by omega);rw[J8 o B.d];simp;rw[this];exact hC.aW hc o hle
     ·left;exact⟨h.zS hw,hw,λC hC e=>absurd e (hne x w C hxr hw hng hC)⟩
    ·intro x x' w w' C C' hx hx' hC hC' e1 e2;rcases hal x w hx with ⟨rfl,rfl⟩|⟨hxr,hw,hng⟩
     ·rcases hal x' w' hx' with ⟨rfl,rfl⟩|⟨hxr',hw',hng'⟩
      ·exact .inl rfl
      ·exact absurd e2 (hne x' w' C' hxr' hw' hng' hC')
     ·exact absurd e1 (hne x w C hxr hw hng hC)
    ·intro g' al' hg';simp[Tr.cW]at hg';by_cases eg:g'=g
     ·rw[if_pos eg]at hg';cases hg';simp
     ·rw[if_neg eg]at hg';refine(h.ends g' al' hg').imp ?_;intro x y hxy lx ly Bx By h1 h2 h3 h4 h5;rw[hget']at h1 h2;have e1:x≠r:=by grind
      have e2:y≠r:=by rintro rfl;rw[if_pos rfl]at h2;cases h2;exact eg rfl
      rw[if_neg e1]at h1;rw[if_neg e2]at h2;exact hxy lx ly Bx By h1 h2 h3 h4 h5
def grown(st:St)(l':List AV)(g:Nat)(al':List Nat):St:=⟨st.rows.set st.next (So (.ce l' g)),st.live.set g (So al'),st.next+1⟩
theorem pV(st:St)(l':List AV)(g:Nat)(al':List Nat)(x:Nat):(grown st l' g al').get x=if x=st.next then So (.ce l' g) else st.get x:=by simp[grown,St.get,Tr.cW]
theorem vo{l l':List AV}(hr:st.ce r=So (l,g,al))(hsub:∀x∈al',x=st.next\/x∈from_ r al){w:Row}
  (hx:(grown st l' g al').alive x=So w):(x=st.next/\w=.ce l' g)\/(x≠st.next/\st.alive x=So w/\(∀lx,w=.ce lx g->x∈al')):=by
 by_cases e:x=st.next
 ·have:=Rel.kZ hx;grind[pV]
 ·obtain⟨-,hlg,-,-⟩:=St.lA hr;grind[Rel.kZ,pV,St.alive,grown,Tr.cW,mem_iff,vj]
theorem MW(h:Rel E H st)(hlg:st.live.get g=So al)(hm:r∈al)(hx:x∈from_ r al):x=r\/uj E st g r x:=by have hp:=h.ends g al hlg;have⟨p,hpa⟩:=DG r al;grind[XH,Q7]
theorem Qf(h:Rel E H st)(hlg:st.live.get g=So al):(from_ r al).Pairwise (uj E st g):=by have hp:=h.ends g al hlg;have⟨p,hpa⟩:=DG r al;grind
theorem Rel.Ig(h:Rel E H st)(hnt:st.next<E.top){l old new:List AV}(hr:st.ce r=So (l,g,al))(hcut:cut l o k=So old)
  (hal':(al'=st.next::from_ r al/\o+k=l.length)\/al'=[st.next]) (hnew:aH E new us)
  {B:eo} (hB:E.phi r=So B) (hroom:o+B.d+k+us.length<=B.n):
  ∃(cs:List Value) (t:TypeId) (fz:Nat×Nat),H[B.b]? = So (.cells cs.toArray t fz)/\my cs.length fz/\cs.length=B.n/\
   Rel (E.bind st.next ⟨B.b,o+B.d,B.n⟩) (H.setIfInBounds B.b (.cells (aW cs (o+B.d+k) us).toArray t fz)) (grown st (old++new) g al'):=by
 have⟨ha,hlg,hm,hget⟩:=St.lA hr;have⟨B',cs,t,fz,hB',hH,hfz,hn,hd,hC⟩:=h.cells hr;rw[hB]at hB';cases hB';refine⟨cs,t,fz,hH,hfz,hn,?_⟩;have hlt:B.b<H.size:=(Q4.1 hH).1;have hsub:∀x∈al',x=st.next\/x∈from_ r al:=by grind
 have hmem:r∈al:=mem_iff.1 hm;have hle:E.le (E.bind st.next ⟨B.b,o+B.d,B.n⟩):=Env.mS (h.fresh _ (Q0 _) hnt);have hg1:g<st.next:=by
  rcases Q3 g st.next with hh|hh
  ·grind
  ·rw[h.freshG g hh]at hlg;grind
 have hin:∀x w C,x≠st.next->st.alive x=So w->(∀lx,w=.ce lx g->x∈al')->E.phi x=So C->C.b=B.b->∃lx,w=.ce lx g/\C.d+lx.length<=o+B.d+k:=by
  intro x w C hx hw hin hC e;have hxg:∃lx,w=.ce lx g:=by
   rcases h.sep x r w _ C B hw ha hC hB e with rfl|⟨g',l1,l2,rfl,h2⟩
   ·rw[ha]at hw;cases hw;exact⟨l,rfl⟩
   ·cases h2;exact⟨l1,rfl⟩
  obtain⟨lx,rfl⟩:=hxg;refine⟨lx,rfl,?_⟩;have hxm:=hin lx rfl;rcases hal' with ⟨rfl,hk⟩|rfl
  ·have hx2:x∈from_ r al:=by grind
   rcases MW h hlg hmem hx2 with rfl|he
   ·grind
   ·have:=he l lx B C hget (Rel.kZ hw) hB hC e.symm;omega
  grind
 refine h.Sl hlt (h.own r _ B ha hB) hle rfl (λx hx=>Env.cG (by omega)) (show st.next<=st.next+1 from Nat.le_succ _) rfl ?_ ?_ ?_ ?_ ?_ ?_ (λx t' r0 q hx=>by grind[pV]) (dZ.set hH)
 ·intro x hx;simp[grown]at hx;exact⟨λht=>by rw[Env.cG (by omega)];exact h.fresh x (by omega) ht,by rw[pV,if_neg (by omega)];exact h.freshRow x (by omega)⟩
 ·intro g' hg';simp[grown]at hg';have:g'≠g:=by omega
  simp[grown,Tr.cW,if_neg this];exact h.freshG g' (by omega)
 ·intro g' al2 x hg' hx;simp[grown,Tr.cW]at hg'|-;by_cases eg:g'=g
  ·rw[if_pos eg]at hg';cases hg';rcases hsub x hx with rfl|h1
   ·omega
   ·have:=h.liveLt g al x hlg (vj h1);omega
  ·rw[if_neg eg]at hg';have:=h.liveLt g' al2 x hg' hx;omega
 ·intro x w hx;rcases vo hr hsub hx with ⟨rfl,rfl⟩|⟨hxn,hw,hxin⟩
  ·right;refine⟨_,Env.df,rfl,(aW cs (o+B.d+k) us).toArray,t,fz,by simp[hlt],?_,?_,?_,?_⟩
   ·simpa[tH]using hfz
   ·simpa[tH]using hn
   ·simp;have:=lW hcut;have:=hnew.length;omega
   ·have hol:=lW hcut;have hnl:=hnew.length;obtain⟨rfl,hok⟩:=pQ hcut;simp only[Q8];have e1:((aW cs (o+B.d+k) us).drop (o+B.d)).take (((l.drop o).take k).length+new.length)=((cs.drop (o+B.d)).take k)++us:=by
     rw[mg _ _ _ (by omega),hol,hnl];apply Q5;intro j;by_cases hj:j<k+us.length
     ·rw[List.getElem?_take_of_lt hj,J9];simp only[J5,Q6,Q8,List.length_drop,J6,J9];have a1:min (o+B.d+k) cs.length=o+B.d+k:=by omega
      have a2:min k (cs.length-(o+B.d))=k:=by omega
      rw[a1,a2];by_cases h1:j<k
      ·rw[if_pos (by omega),if_pos (by omega),if_pos (by omega),if_pos h1,if_pos h1]
      ·rw[if_pos (by omega),if_neg (by omega),if_neg h1];congr 1;omega
     ·rw[Q1 (by rw[Q6];omega),Q1 (by simp;omega)]
    rw[e1];refine aH.append (aH.mono hle ?_) (hnew.mono hle);have h2:=(hC.drop o).take k;rw[List.drop_take,List.drop_drop,List.take_take]at h2;rw[J8 o B.d];rcases hok with hok|rfl
    ·rwa [show min k (l.length-o)=k by omega]at h2
    ·simp at h2|-;exact .nil
  ·left;refine⟨h.zS hw,hw,λC hC e=>?_⟩;obtain⟨lx,rfl,hend⟩:=hin x w C hxn hw hxin hC e;have⟨C',hC',cs',t',fz',g1,g2,g3,g4,g5⟩:=h.rows x _ hw;rw[hC]at hC';cases hC';rw[e,hH]at g1;cases g1;refine⟨(aW cs (o+B.d+k) us).toArray,t,fz,by rw[e];simp[hlt],?_,?_,g4,?_⟩
   ·simpa[tH]using hfz
   ·simp[tH];simpa using g3
   ·simp at g5|-;rw[aaM cs _ us C.d lx.length (by omega) hend];exact g5.mono hle
 ·intro x x' w w' C C' hx hx' hC hC' e1 e2;rcases vo hr hsub hx with ⟨rfl,rfl⟩|⟨hxn,hw,hxin⟩<;>rcases vo hr hsub hx' with ⟨rfl,rfl⟩|⟨hxn',hw',hxin'⟩
  ·exact .inl rfl
  ·rw[Env.cG hxn']at hC';obtain⟨lx,rfl,-⟩:=hin x' w' C' hxn' hw' hxin' hC' e2;exact .inr ⟨g,_,_,rfl,rfl⟩
  ·rw[Env.cG hxn]at hC;obtain⟨lx,rfl,-⟩:=hin x w C hxn hw hxin hC e1;exact .inr ⟨g,_,_,rfl,rfl⟩
  ·rw[Env.cG hxn]at hC;rw[Env.cG hxn']at hC';obtain⟨lx,rfl,-⟩:=hin x w C hxn hw hxin hC e1;obtain⟨lx',rfl,-⟩:=hin x' w' C' hxn' hw' hxin' hC' e2;exact .inr ⟨g,_,_,rfl,rfl⟩
 ·intro g' al2 hg';simp[grown,Tr.cW]at hg';have keep:∀(gg:Nat) (al3:List Nat),(∀x∈al3,x<st.next)->al3.Pairwise (uj E st gg)->al3.Pairwise (uj (E.bind st.next ⟨B.b,o+B.d,B.n⟩) (grown st (old++new) g al') gg):=by
   intro gg al3 hall hp;refine hp.imp_of_mem ?_;intro x y hx hy hxy lx ly Bx By h1 h2 h3 h4 h5;have a1:=hall x hx;have a2:=hall y hy;rw[pV,if_neg (by omega)]at h1 h2;rw[Env.cG (by omega)]at h3 h4;exact hxy lx ly Bx By h1 h2 h3 h4 h5
  by_cases eg:g'=g
  ·subst eg;rw[if_pos rfl]at hg';cases hg';rcases hal' with ⟨rfl,hk⟩|rfl
   ·refine Q7.2 ⟨?_,keep _ _ (λx hx=>h.liveLt _ al x hlg (vj hx)) (Qf h hlg)⟩;intro y hy lx ly Bx By h1 h2 h3 h4 h5;rw[pV,if_pos rfl]at h1;cases h1;rw[Env.df]at h3;cases h3;have hyn:y≠st.next:=by have:=h.liveLt _ al y hlg (vj hy);omega
    rw[pV,if_neg hyn]at h2;rw[Env.cG hyn]at h4;have hol:=lW hcut;simp only at h5|-;rw[Q8,hol];rcases MW h hlg hmem hy with rfl|he
    ·rw[hget]at h2;cases h2;rw[hB]at h4;cases h4;omega
    ·have:=he l ly B By hget h2 hB h4 h5;omega
   ·simp
  ·rw[if_neg eg]at hg';exact keep _ _ (λx hx=>h.liveLt g' al2 x hg' hx) (h.ends g' al2 hg')
theorem Rel.Ih(h:Rel E H st)(hn:st.next<E.top){l old new:List AV}(hr:st.ce r=So (l,g,al))(hcut:cut l o k=So old)
  (hal':(al'=st.next::from_ r al/\o+k=l.length)\/al'=[st.next]) (t:TypeId)
  (hl:(old++new).length<=vs.length) (hc:aH E (old++new) (vs.take (old++new).length)):
  Rel (E.bind st.next ⟨H.size,0,vs.length⟩) (H.push (.cells vs.toArray t (0,0))) (grown st (old++new) g al'):=by
 have⟨ha,hlg,hm,hget⟩:=St.lA hr;have hsub:∀x∈al',x=st.next\/x∈from_ r al:=by grind
 have hle:E.le (E.bind st.next ⟨H.size,0,vs.length⟩):=Env.mS (h.fresh _ (Q0 _) hn);have hold:∀b,b<H.size->(H.push (.cells vs.toArray t (0,0)))[b]? = H[b]?:=λb hb=>by grind
 have hg1:g<st.next:=by
  rcases Q3 g st.next with hh|hh
  ·grind
  ·rw[h.freshG g hh]at hlg;grind
 refine⟨?_,?_,?_,?_,?_,?_,?_,?_,?_,λx t' r0 q hx=>by
  rw[pV]at hx;split at hx
  ·grind
  ·exact(h.tys x t' r0 q hx).mono hle (dZ.push H _)⟩
 ·intro b o' hb;have hb':E.imm b=So o':=hb;rw[hold b (h.wG hb')];exact h.imm b o' hb'
 ·intro x hx ht;simp[grown]at hx;rw[Env.cG (by omega)];exact h.fresh x (by omega) ht
 ·intro x hx;simp[grown]at hx;rw[pV,if_neg (by omega)];exact h.freshRow x (by omega)
 ·intro g' hg';simp[grown]at hg';simp[grown,Tr.cW,if_neg (show ¬g'=g by omega)];exact h.freshG g' (by omega)
 ·intro g' al2 x hg' hx;simp[grown,Tr.cW]at hg'|-;by_cases eg:g'=g
  ·rw[if_pos eg]at hg';cases hg';rcases hsub x hx with rfl|h1
   ·omega
   ·have:=h.liveLt g al x hlg (vj h1);omega
  ·rw[if_neg eg]at hg';have:=h.liveLt g' al2 x hg' hx;omega
 ·intro x w hx;rcases vo hr hsub hx with ⟨rfl,rfl⟩|⟨hxn,hw,-⟩
  ·exact⟨_,Env.df,vs.toArray,t,(0,0),by simp,by exact .inl rfl,by simp,by simpa using hl,by simpa using hc.mono hle⟩
  ·have⟨C,hC,hR⟩:=h.rows x w hw;exact⟨C,by rw[Env.cG hxn];exact hC,hR.mono hle (hold _ hR.lt)⟩
 ·intro x w C hx hC;rcases vo hr hsub hx with ⟨rfl,rfl⟩|⟨hxn,hw,-⟩
  ·rw[Env.df]at hC;cases hC;show E.imm H.size=No
   cases hi:E.imm H.size with
   |none=>rfl
   |some o'=>exact absurd (h.wG hi) (Q9 _)
  ·rw[Env.cG hxn]at hC;exact h.own x w C hw hC
 ·intro x x' w w' C C' hx hx' hC hC' hb;rcases vo hr hsub hx with ⟨rfl,rfl⟩|⟨hxn,hw,-⟩<;>rcases vo hr hsub hx' with ⟨rfl,rfl⟩|⟨hxn',hw',-⟩
  ·exact .inl rfl
  ·rw[Env.df]at hC;cases hC;rw[Env.cG hxn']at hC';have⟨D,hD,hR⟩:=h.rows x' w' hw';rw[hC']at hD;cases hD;have:=hR.lt;simp at hb;omega
  ·rw[Env.df]at hC';cases hC';rw[Env.cG hxn]at hC;have⟨D,hD,hR⟩:=h.rows x w hw;rw[hC]at hD;cases hD;have:=hR.lt;simp at hb;omega
  ·rw[Env.cG hxn]at hC;rw[Env.cG hxn']at hC';exact h.sep x x' w w' C C' hw hw' hC hC' hb
 ·intro g' al2 hg';simp[grown,Tr.cW]at hg';have keep:∀(gg:Nat) (al3:List Nat),(∀x∈al3,x<st.next)->al3.Pairwise (uj E st gg)->al3.Pairwise (uj (E.bind st.next ⟨H.size,0,vs.length⟩) (grown st (old++new) g al') gg):=by
   intro gg al3 hall hp;refine hp.imp_of_mem ?_;intro x y hx hy hxy lx ly Bx By h1 h2 h3 h4 h5;have a1:=hall x hx;have a2:=hall y hy;rw[pV,if_neg (by omega)]at h1 h2;rw[Env.cG (by omega)]at h3 h4;exact hxy lx ly Bx By h1 h2 h3 h4 h5
  by_cases eg:g'=g
  ·subst eg;rw[if_pos rfl]at hg';cases hg';rcases hal' with ⟨rfl,hk⟩|rfl
   ·refine Q7.2 ⟨?_,keep _ _ (λx hx=>h.liveLt _ al x hlg (vj hx)) (Qf h hlg)⟩;intro y hy lx ly Bx By h1 h2 h3 h4 h5;rw[Env.df]at h3;cases h3;have hyn:y≠st.next:=by have:=h.liveLt _ al y hlg (vj hy);omega
    rw[pV,if_neg hyn]at h2;rw[Env.cG hyn]at h4;have hmy:mem y al=true:=mem_iff.2 (vj hy);have hay:st.alive y=So (.ce ly g'):=by simp[St.alive,h2,hlg,hmy]
    have⟨D,hD,hR⟩:=h.rows y _ hay;rw[h4]at hD;cases hD;have:=hR.lt;simp at h5;omega
   ·simp
  ·rw[if_neg eg]at hg';exact keep _ _ (λx hx=>h.liveLt g' al2 x hg' hx) (h.ends g' al2 hg')
theorem Step.wt(h:Rel E H st){r o:Nat}{vs:List AV}{us:List Value}{st':St}(hw:wt st r o vs=So st')(hc:aH E vs us):
  ∃(B:eo) (cs:List Value) (t:TypeId) (fz:Nat×Nat),E.phi r=So B/\H[B.b]? = So (.cells cs.toArray t fz)/\my cs.length fz/\
   (o+B.d)+us.length<=cs.length/\(∀u∈us,u.oneCell'=Tt)/\Step E E H (H.setIfInBounds B.b (.cells (aW cs (o+B.d) us).toArray t fz)) st st':=by
 have⟨B,cs,t,fz,h1,h2,h3,h4,h5,h6⟩:=h.wt hw hc;refine⟨B,cs,t,fz,h1,h2,h3,h4,h5,.refl E,λ_ _ _ h=>h,rfl,h6,by simp,?_,?_⟩
 ·intro b hb ho;have hw':=hw;unfold Ev.wt at hw';cases hr:st.ce r with
  |none=>grind
  |some x=>
   obtain⟨ha,-,-,-⟩:=St.lA hr;have:b≠B.b:=by rintro rfl;exact ho ⟨r,_,B,ha,h1,rfl⟩
   grind
 ·rintro b ⟨x,w,C,hx,hC,rfl⟩;right;have hw':=hw;unfold Ev.wt at hw';cases hr:st.ce r with
  |none=>grind
  |some y=>
   have⟨l,g,al⟩:=y;simp[hr]at hw';have⟨ha,hlg,hm,hget⟩:=St.lA hr;by_cases e:x=r
   ·subst e;exact⟨x,_,C,ha,hC,rfl⟩
   ·cases hb:(Nat.ble (o+vs.length) l.length&&bH vs)with
    |false=>simp_all
    |true=>simp[hb]at hw';refine⟨x,w,C,?_,hC,rfl⟩;grind[St.get,Tr.cW,St.alive,mem_iff]
theorem N0{E':Env}{l l':List AV}(hr:st.ce r=So (l,g,al))(hsub:∀x∈al',x=st.next\/x∈from_ r al)
  (hE:∀x,x≠st.next->E'.phi x=E.phi x) (ho:jh E' (grown st l' g al') b):(∃B,E'.phi st.next=So B/\B.b=b)\/jh E st b:=by
 obtain⟨x,w,C,hx,hC,rfl⟩:=ho;rcases vo hr hsub hx with ⟨rfl,rfl⟩|⟨hxn,hw,-⟩
 ·grind
 ·rw[hE x hxn]at hC;exact .inr ⟨x,w,C,hw,hC,rfl⟩
theorem Step.Ig(h:Rel E H st)(hnt:st.next<E.top){r o k:Nat}{l old new:List AV}{g:Nat}{al al':List Nat}{us:List Value}(hr:st.ce r=So (l,g,al))(hcut:cut l o k=So old)
  (hal':(al'=st.next::from_ r al/\o+k=l.length)\/al'=[st.next]) (hnew:aH E new us)
  {B:eo} (hB:E.phi r=So B) (hroom:o+B.d+k+us.length<=B.n):
  ∃(cs:List Value) (t:TypeId) (fz:Nat×Nat),H[B.b]? = So (.cells cs.toArray t fz)/\my cs.length fz/\cs.length=B.n/\
   Step E (E.bind st.next ⟨B.b,o+B.d,B.n⟩) H (H.setIfInBounds B.b (.cells (aW cs (o+B.d+k) us).toArray t fz)) st (grown st (old++new) g al'):=by
 have⟨cs,t,fz,h1,h2,h3,h4⟩:=h.Ig hnt hr hcut hal' hnew hB hroom;obtain⟨ha,-,-,-⟩:=St.lA hr;have hsub:∀x∈al',x=st.next\/x∈from_ r al:=by grind
 refine⟨cs,t,fz,h1,h2,h3,Env.mS (h.fresh _ (Q0 _) hnt),λ_ _ _ h=>h,rfl,h4,by simp,?_,?_⟩
 ·intro b hb ho;have:b≠B.b:=by rintro rfl;exact ho ⟨r,_,B,ha,hB,rfl⟩
  grind
 ·intro b ho;right;rcases N0 hr hsub (λx hx=>Env.cG hx) ho with ⟨C,hC,rfl⟩|ho
  ·rw[Env.df]at hC;cases hC;exact⟨r,_,B,ha,hB,rfl⟩
  grind
theorem Step.Ih(h:Rel E H st)(hnt:st.next<E.top){r o k:Nat}{l old new:List AV}{g:Nat}{al al':List Nat}{vs:List Value}(hr:st.ce r=So (l,g,al))(hcut:cut l o k=So old)
  (hal':(al'=st.next::from_ r al/\o+k=l.length)\/al'=[st.next]) (t:TypeId)
  (hl:(old++new).length<=vs.length) (hc:aH E (old++new) (vs.take (old++new).length)):
  Step E (E.bind st.next ⟨H.size,0,vs.length⟩) H (H.push (.cells vs.toArray t (0,0))) st (grown st (old++new) g al'):=by
 have hsub:∀x∈al',x=st.next\/x∈from_ r al:=by grind
 refine⟨Env.mS (h.fresh _ (Q0 _) hnt),λ_ _ _ h=>h,rfl,h.Ih hnt hr hcut hal' t hl hc,by simp,?_,?_⟩
 ·intro b hb ho;simp[Array.getElem?_push,Nat.ne_of_lt hb]
 ·intro b ho;rcases N0 hr hsub (λx hx=>Env.cG hx) ho with ⟨C,hC,rfl⟩|ho
  ·rw[Env.df]at hC;cases hC;exact .inl (Q0 _)
  ·exact .inr ho
theorem yw{w:Row}(hx:(st.kill r).alive x=So w):st.alive x=So w/\(st.kill r).get x=st.get x:=by
 unfold St.kill at hx|-;split at hx
 ·rename_i l g al hg;refine⟨?_,rfl⟩;have h1:=Rel.kZ hx;unfold St.alive at hx|-;simp only[St.get]at h1 hx|-;simp only[h1]at hx|-;cases w with
  |ce lx gx=>
   simp only[Tr.cW]at hx|-;by_cases eg:gx=g
   ·subst eg;simp[mem]at hx
   ·rw[if_neg eg]at hx;exact hx
  |mp=>rfl
  |si=>rfl
  |mi=>rfl
  |lp=>rfl
  |mu=>rfl
  |ch=>rfl
  |ty=>simp at hx
 ·exact⟨hx,rfl⟩
theorem Step.kill(h:Rel E H st)(r:Nat):Step E E H H st (st.kill r):=by
 have hget:∀x,(st.kill r).get x=st.get x:=by intro x;unfold St.kill;split<;>rfl
 have hnext:(st.kill r).next=st.next:=by unfold St.kill;split<;>rfl
 have hlive:∀g al,(st.kill r).live.get g=So al->al=[]\/st.live.get g=So al:=by
  intro g al hg;unfold St.kill at hg;split at hg
  ·simp only[Tr.cW]at hg;split at hg
   ·cases hg;exact .inl rfl
   ·exact .inr hg
  ·exact .inr hg
 refine⟨.refl E,λ_ _ _ h=>h,rfl,⟨h.imm,by rw[hnext];exact h.fresh,λx hx=>by rw[hget];exact h.freshRow x (hnext▸hx),?_,?_,?_,?_,?_,?_,λx t r0 q hx=>h.tys x t r0 q (hget x▸hx)⟩,Q0 _,λ_ _ _=>rfl,?_⟩
 ·intro g hg;rw[hnext]at hg;unfold St.kill;split
  ·rename_i l g' al' hg';simp only[Tr.cW];split
   ·rename_i e;subst e;obtain⟨-,hlg,-,-⟩:=St.lA hg';rw[h.freshG _ hg]at hlg;cases hlg
   ·exact h.freshG g hg
  ·exact h.freshG g hg
 ·intro g al x hg hx;rw[hnext];rcases hlive g al hg with rfl|hg
  ·simp at hx
  ·exact h.liveLt g al x hg hx
 ·intro x w hx;exact h.rows x w (yw hx).1
 ·intro x w B hx hB;exact h.own x w B (yw hx).1 hB
 ·intro x x' w w' B B' hx hx' hB hB' hb;exact h.sep x x' w w' B B' (yw hx).1 (yw hx').1 hB hB' hb
 ·intro g al hg;rcases hlive g al hg with rfl|hg
  ·simp
  ·refine(h.ends g al hg).imp ?_;intro x y hxy lx ly Bx By h1 h2;rw[hget]at h1 h2;exact hxy lx ly Bx By h1 h2
 ·rintro b ⟨x,w,C,hx,hC,rfl⟩;exact .inr ⟨x,w,C,(yw hx).1,hC,rfl⟩
