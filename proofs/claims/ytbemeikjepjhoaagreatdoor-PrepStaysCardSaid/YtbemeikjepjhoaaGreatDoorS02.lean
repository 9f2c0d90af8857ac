/-
  A deterministic evaluator of Go code over abstract values: the operations, the code, the calls. (Each operation has a definition of its own, and recursion goes 
-/
import Derived.Test.YtbemeikjepjhoaaGreatDoorS01
namespace Go.Ev
noncomputable section
structure Self where
 call:FuncId→List AV→St→Option (AV × St)
 code:Nat→Code→Tr AV→St→Out
 dcall:FuncId→List AV→St→Option (AV × St)
abbrev Res:=Option (AV × St)
abbrev Han:=Program→Self→Tr AV→St→Res
def pmapO {α β:Type} (f:α→Option β):List α→Option (List β)
 | []=>some []
 | a :: l=>match f a with
  | some b=>match pmapO f l with | some r=>some (b :: r) | none=>none
  | none=>none
def give (st:St):Option AV→Res
 | some v=>some (v,st)
 | none=>none
def done:Option St→Res
 | some st=>some (.un,st)
 | none=>none
def alloc (st:St) (cells:List AV):AV × St:=(.p st.next 0,st.newCe cells)
def args (t:Tr AV) (l:List Operand):List AV:=l.map (evO t)
def upto (c:Nat):List Nat→Nat→Option Nat
 | [],_=>none
 | x :: l,n=>(@Bool.rec (fun _=>_) (upto c l (n+1)) (some n) (Nat.beq x c))
abbrev Bui:=Program→St→List TypeId→List AV→Res
def int64 (st:St):Option Nat→Res
 | some n=>some (.i .i64 (Int.ofNat n),st)
 | none=>none
def lenMap (st:St):AV→Res
 | .m r=>match st.get r with | some (.mp es _)=>some (.i .i64 (Int.ofNat es.length),st) | _=>none
 | .mn=>some (.i .i64 0,st)
 | _=>none
def lenChan (st:St):AV→Res
 | .c r=>match st.get r with | some (.ch _ buf)=>some (.i .i64 (Int.ofNat buf.length),st) | _=>none
 | .cn=>some (.i .i64 0,st)
 | _=>none
def isText:AV→Bool
 | .s _=>true
 | _=>false
def bLen1 (P:Program) (st:St) (ts:List TypeId) (v:AV):Res :=
 match ts with
 | t :: _=>match P.underlying t with
  | some .string=>@Bool.rec (fun _=>Res) none (int64 st (lenOf v)) (isText v)
  | some (.slice _)=>@Bool.rec (fun _=>Res) (int64 st (lenOf v)) none (isText v)
  | some (.map _ _)=>lenMap st v
  | some (.array n _)=>int64 st (some n)
  | some (.pointer e)=>match P.underlying e with | some (.array n _)=>int64 st (some n) | _=>none
  | some (.chan _ _)=>lenChan st v
  | _=>none
 | []=>none
def intT (P:Program) (x:TypeId):Bool:=match P.underlying x with | some (.int _)=>true | _=>false
def appendZ1 (P:Program) (st:St) (e n:Nat):Option (List AV)→Res
 | some l=>@Bool.rec (fun _=>Res) none (some (.sl st.next 0 n (szOf P e) none,st.newCe (rep n l))) (fits P e n)
 | none=>none
def appendZ2 (P:Program) (st:St) (x n:Nat):Option TypeId→Res
 | some e=>@Bool.rec (fun _=>Res) none (@Bool.rec (fun _=>Res) (appendZ1 P st e n (zeroC P e)) (some (.sn,st)) (Nat.beq n 0)) (intT P x && hasInfo P e && Nat.ble n 281474976710656)
 | none=>none
def appendZ (P:Program) (st:St) (n:Nat):List TypeId→Res
 | t :: x :: _=>appendZ2 P st x n (elOf P t)
 | _=>none
def isU8 (P:Program) (e:TypeId):Bool:=match P.underlying e with | some (.int .u8)=>true | _=>false
def u8El (P:Program) (e:Nat):Option Nat:=@Bool.rec (fun _=>Option Nat) none (some e) (isU8 P e)
def tyEl (P:Program):List TypeId→Option Nat
 | t :: _=>match elOf P t with
  | some e=>u8El P e
  | none=>none
 | []=>none
def oldTy (st:St) (e:Nat):AV→Bool
 | .sn=>true
 | .sl r o _ _ _=>tyIs st r e && Nat.beq o 0
 | _=>false
def addTyS (e:Nat) (ok:Bool):Res→Res
 | some (.sl r o n z c,st)=>@Bool.rec (fun _=>Res) (some (.sl r o n z c,st)) (some (.sl r o n z c,st.new (.ty e r true))) (ok && Nat.beq (r+1) st.next)
 | r=>r
def appT (P:Program) (st:St) (ts:List TypeId) (s:AV) (r:Res):Res:=match tyEl P ts with
 | some e=>addTyS e (oldTy st e s) r
 | none=>r
def append0 (P:Program) (st:St) (ts:List TypeId) (s x:AV):Option Nat→Res
 | some n=>match s with
  | .sn=>appendZ P st n ts
  | _=>none
 | none=>appT P st ts s (append P st ts s x)
def bAppend:Bui:=fun P st ts as=>match as with
 | [s,x]=>append0 P st ts s x (natOf x)
 | _=>none
def bLen:Bui:=fun P st ts as=>match as with
 | [x]=>bLen1 P st ts x
 | _=>none
def capV (st:St):AV→Res
 | .sl _ _ _ _ (some c)=>some (.i .i64 (Int.ofNat c),st)
 | .sn=>some (.i .i64 0,st)
 | _=>none
def bCap:Bui:=fun P st ts as=>match ts,as with
 | t :: _,[x]=>match elOf P t with
  | some _=>capV st x
  | none=>none
 | _,_=>none
def copyTo (st:St) (e z m:Nat) (r o n:Nat) (x:AV):Res :=
 match firstCells st e (min n m) x with
 | some l=>(@Bool.rec (fun _=>_) none (match wt st r o l with | some st=>some (.i .i64 (Int.ofNat (min n m)),st) | none=>none) (Nat.beq z e))
 | none=>none
def copyV (st:St) (z n:Nat) (x:AV):AV→Res
 | .sl r o m z' _=>copyTo st z z' m r o n x
 | .sn=>some (.i .i64 0,st)
 | _=>none
def bCopy:Bui:=fun P st ts as=>match ts,as with
 | t :: _,[d,x]=>match elOf P t,lenOf x with
  | some e,some n=>@Bool.rec (fun _=>Res) none (copyV st (szOf P e) n x d) (hasInfo P e)
  | _,_=>none
 | _,_=>none
def okTu:Option St→Res
 | some st=>some (.tu [],st)
 | none=>none
def bDelete:Bui:=fun P st ts as=>match ts,as with
 | t :: _,[m,k]=>okTu (delete P t st m k)
 | _,_=>none
def clearTo (st:St) (r o n:Nat):Option (List AV)→Res
 | some l=>okTu (wt st r o (rep n l))
 | none=>none
def clearV (P:Program) (st:St) (e:TypeId):AV→Res
 | .sl r o n _ _=>@Bool.rec (fun _=>Res) (clearTo st r o n (zeroC P e)) (some (.tu [],st)) (Nat.beq n 0)
 | .sn=>some (.tu [],st)
 | _=>none
def bClear:Bui:=fun P st ts as=>match ts,as with
 | t :: _,[x]=>match elOf P t with
  | some e=>clearV P st e x
  | none=>none
 | _,_=>none
def bMax:Bui:=fun _ st _ as=>match as with
 | [.i k a,.i _ b]=>some (.i k ((@Bool.rec (fun _=>_) a b (ilt a b))),st)
 | _=>none
def bMin:Bui:=fun _ st _ as=>match as with
 | [.i k a,.i _ b]=>some (.i k ((@Bool.rec (fun _=>_) a b (ilt b a))),st)
 | _=>none
def byteOf:AV→Option Nat
 | .i .u8 (.ofNat n)=>@Bool.rec (fun _=>Option Nat) none (some n) (Nat.blt n 256)
 | _=>none
def strOf (st:St):Option (List AV)→Res
 | some l=>match pmapO byteOf l with
  | some bs=>some (.s bs,st)
  | none=>none
 | none=>none
def bNone:Bui:=fun _ _ _ _=>none
def bSliceData:Bui:=fun _ st _ as=>match as with
 | [.sl r o n _ _]=>@Bool.rec (fun _=>Res) none (some (.p r o,st)) (Nat.blt 0 n)
 | [.sn]=>some (.pn,st)
 | _=>none
def strKill (st:St) (r:Nat):Option (List AV)→Res
 | some l=>match pmapO byteOf l with
  | some bs=>some (.s bs,st.kill r)
  | none=>none
 | none=>none
def unsafeStr (P:Program) (st:St) (pt:TypeId) (r n:Nat):Res:=match P.underlying pt with
 | some (.pointer e)=>@Bool.rec (fun _=>Res) none (strKill st r (rd st r 0 n)) (tyIs st r e && (Nat.beq (szOf P e) 1 && Nat.ble n 9223372036854775807))
 | _=>none
def unsafeStr0 (P:Program) (st:St) (pt:TypeId) (n:Nat):AV→Res
 | .p r o=>@Bool.rec (fun _=>Res) (@Bool.rec (fun _=>Res) none (unsafeStr P st pt r n) (Nat.beq o 0)) (some (.s [],st)) (Nat.beq n 0)
 | .pn=>@Bool.rec (fun _=>Res) none (some (.s [],st)) (Nat.beq n 0)
 | _=>none
def bUnsafeStr:Bui:=fun P st ts as=>match ts,as with
 | [pt,_],[p,.i .i64 (.ofNat n)]=>unsafeStr0 P st pt n p
 | _,_=>none
def bui:Builtin→Bui
 | .append=>bAppend
 | .len=>bLen
 | .cap=>bCap
 | .copy=>bCopy
 | .delete=>bDelete
 | .clear=>bClear
 | .max=>bMax
 | .min=>bMin
 | .unsafeSliceData=>bSliceData
 | .unsafeString=>bUnsafeStr
 | _=>bNone
def callB (P:Program) (S:Self) (st:St) (fn:Func) (f:FuncId) (as:List AV):Res :=
 match fn.body with
 | some _=>S.call f as st
 | none=>none
def callF0 (P:Program) (S:Self) (f:FuncId) (as:List AV) (st:St):Res :=
 match P.funcs[f]? with
 | some fn=>callB P S st fn f as
 | none=>none
def extIndex (st:St) (c:Nat):Option Nat→Res
 | some n=>some (.i .i64 (Int.ofNat n),st)
 | none=>some (.i .i64 (-1),st)
def extIndexByte (st:St):List AV→Res
 | [.s l,.i .u8 (.ofNat c)]=>@Bool.rec (fun _=>Res) none (extIndex st c (upto c l 0)) (Nat.blt c 256)
 | _=>none
def extSame (st:St):List AV→Res
 | [x]=>some (x,st)
 | _=>none
def someBytes (e n:Nat) (st:St):Res:=some (.sl st.next 0 n 1 none,(st.newCe (rep n [.bad])).new (.ty e st.next true))
def extBytes2 (P:Program) (st:St) (e n:Nat):Res:=@Bool.rec (fun _=>Res) none (someBytes e n st) (Nat.beq (szOf P e) 1 && Nat.ble n 1048576)
def extBytes1 (P:Program) (st:St) (t n:Nat):Res:=match P.underlying t with
 | some (.slice e)=>extBytes2 P st e n
 | _=>none
def extBytes (P:Program) (fn:Func) (st:St):List AV→Res
 | [.i .i64 (.ofNat n)]=>match fn.resultTypes.toList with | [t]=>extBytes1 P st t n | _=>none
 | _=>none
def extB3 (P:Program) (fn:Func) (st:St) (as:List AV):Res :=
 @Bool.rec (fun _=>Res) none (extBytes P fn st as) (fn.name == "internal/bytealg.MakeNoZero" && fn.origin == "")
def extB2 (P:Program) (fn:Func) (st:St) (as:List AV):Res :=
 @Bool.rec (fun _=>Res) (extB3 P fn st as) (extSame st as) (fn.name == "internal/abi.NoEscape" && fn.origin == "")
def extB (P:Program) (fn:Func) (st:St) (as:List AV):Res :=
 @Bool.rec (fun _=>Res) (extB2 P fn st as) (extIndexByte st as) (fn.name == "internal/bytealg.IndexByteString" && fn.origin == "")
def callX (P:Program) (S:Self) (st:St) (fn:Func) (f:FuncId) (as:List AV):Res :=
 match fn.body with
 | some _=>S.call f as st
 | none=>extB P fn st as
def callF (P:Program) (S:Self) (f:FuncId) (as:List AV) (st:St):Res :=
 match P.funcs[f]? with
 | some fn=>callX P S st fn f as
 | none=>none
def methodOf (P:Program) (t:TypeId) (name:String):Option FuncId :=
 match P.info? t with
 | some i=>match i.methods.toList.find? (·.name == name) with
  | some m=>match m.path.toList,m.func with
   | [],some (f,ptr)=>match P.underlying t,ptr with
    | some (.pointer _),true=>some f
    | some (.pointer _),false=>none
    | some _,false=>some f
    | _,_=>none
   | _,_=>none
  | none=>none
 | none=>none
def setL (nt:Nat):List Tmp→List AV→Tr AV→Option (Tr AV)
 | [],[],t=>some t
 | p :: ps,v :: vs,t=>(@Bool.rec (fun _=>_) none (setL nt ps vs (t.set p (some v))) (Nat.blt p nt))
 | _,_,_=>none
def roundEnd (l:Nat) (row:Row):Out→Res
 | .nx _ st=>some (.b true,st.put l row)
 | _=>none
def roundBody (S:Self) (nt:Nat) (b:Code) (l:Nat) (row:Row):Out→Res
 | .nx t st=>roundEnd l row (S.code nt b t st)
 | _=>none
def round (S:Self) (l:Nat) (as:List AV) (st:St):Res :=
 match st.get l with
 | some (.lp t nt ps a b)=>match setL nt ps as t with
  | some t'=>roundBody S nt b l (.lp t nt ps a b) (S.code nt a t' (st.drop l))
  | none=>none
 | _=>none
def opMove (x:Operand):Han:=fun _ _ t st=>some (evO t x,st)
def pickB (a b:AV) (st:St):Option Bool→Res
 | some true=>some (a,st)
 | some false=>some (b,st)
 | none=>none
def opPick (c a b:Operand):Han:=fun _ _ t st=>pickB (evO t a) (evO t b) st (evO t c).asB
def allocC (st:St):Option (List AV)→Res
 | some l=>some (alloc st l)
 | none=>none
def opAlloc (e:TypeId):Han:=fun P _ _ st=>allocC st (zeroC P e)
def opBox (x:Operand):Han:=fun _ _ t st=>allocC st (evO t x).cells
def vals (t:Tr AV) (l:List (Nat × Operand)):List (Nat × AV):=l.map fun p=>(p.1,evO t p.2)
def placeF (P:Program) (fs:Array Field) (n:Nat):Option (Nat × Nat):=match fs[n]? with | some f=>some (f.offset,szOf P f.type) | none=>none
def placeE (z n:Nat):Option (Nat × Nat):=some (n * z,z)
def agSt (st:St):Option (List AV)→Res
 | some l=>some (.ag l,st)
 | none=>none
def wfTy (P:Program) (t:TypeId):Bool:=match P.underlying t with
 | some (.struct fs)=>fs.toList.all fun f=>hasInfo P f.type
 | some (.array _ e)=>hasInfo P e
 | _=>false
def fillAg (st:St) (place:Nat→Option (Nat × Nat)) (l:List (Nat × AV)):Option (List AV)→Res
 | some z=>agSt st (fill place z l)
 | none=>none
def opBuild1 (P:Program) (ty:TypeId) (vs:List (Nat × AV)) (st:St):Res:=match P.underlying ty with
 | some (.struct fs)=>fillAg st (placeF P fs) vs (zeroC P ty)
 | some (.array _ e)=>fillAg st (placeE (szOf P e)) vs (zeroC P ty)
 | _=>none
def opBuild (ty:TypeId) (parts:Array (Nat × Operand)):Han:=fun P _ t st=>@Bool.rec (fun _=>Res) none (opBuild1 P ty (vals t parts.toList) st) (wfTy P ty)
def newSl (st:St) (n z:Nat):Option (List AV)→Res
 | some l=>some (.sl st.next 0 n z (some n),st.newCe l)
 | none=>none
def opBuildSlice (ty:TypeId) (len:Nat) (parts:Array (Nat × Operand)):Han:=fun P _ t st=>match elOf P ty with
 | none=>none
 | some e=>match zeroC P e with
  | none=>none
  | some z=>(@Bool.rec (fun _=>_) none (newSl st len (szOf P e) (fill (placeE (szOf P e)) (rep len z) (vals t parts.toList))) (Nat.ble (len * szOf P e) 16777216))
def opLoad (ty:TypeId) (a:Operand):Han:=fun P _ t st=>give st (loadAt P ty st (evO t a))
def opStore (ty:TypeId) (a x:Operand):Han:=fun P _ t st=>done (storeAt P ty st (evO t a) (evO t x))
def fnOk (g:Fn) (x y:List AV) (st:St):Res :=
 match g with
 | .func n=>some (.f (.func n) x y,st)
 | .yield n=>some (.f (.yield n) x y,st)
 | _=>none
def notNil (st:St) (v:AV):Res :=
 @AV.rec (fun _=>_) (fun _=>PUnit.{1}) (fun _=>none) (fun _=>none) (fun _ _=>none) (fun _ _ _=>none) (fun _ _=>none) (fun r o st=>some (.p r o,st)) (fun _=>none) (fun g st=>some (.gp g,st)) (fun y0 _=>(fun c st=>some (.rp c,st)) y0) (fun _ _ _ _ _ _=>none) (fun _=>none) (fun y0 y1 y2 _=>(fun _ _ _ _=>none) y0 y1 y2) (fun _ _=>none) (fun _=>none) (fun y0 y1 y2 _ _=>(fun g x y st=>fnOk g x y st) y0 y1 y2) (fun _=>none) (fun y0 y1 _=>(fun _ _ _=>none) y0 y1) (fun _=>none) (fun y0 _=>(fun _ _=>none) y0) (fun y0 _=>(fun _ _=>none) y0) (fun _ _=>none) (fun _=>none) ⟨⟩ (fun _ _ _ _=>⟨⟩) v st
theorem notNil_eq (st:St) (v:AV):notNil st v=match v with | .p r o=>some (.p r o,st) | .gp g=>some (.gp g,st) | .rp c=>some (.rp c,st) | .f g x y=>fnOk g x y st | _=>none:=by cases v <;> rfl
def opNilCheck (x:Operand):Han:=fun _ _ t st=>notNil st (evO t x)
def isK:Operand→Bool
 | .const _=>true
 | _=>false
def opBin (op:BinOp) (ty:TypeId) (x y:Operand):Han:=fun P _ t st=>give st (binOp P ty (isK x || isK y) op (evO t x) (evO t y))
def opUn (op:UnOp) (x:Operand):Han:=fun _ _ t st=>give st (unOp op (evO t x))
def bytesStr (st:St) (x:AV):Res:=match x with
 | .sn=>some (.s [],st)
 | x=>match lenOf x with
  | some n=>strOf st (firstCells st 1 n x)
  | none=>none
def aliveCe (st:St) (r:Nat):Bool:=match st.ce r with | some _=>true | none=>false
def convSl (P:Program) (st:St) (src dst e:TypeId):AV→Res
 | .sl r o n z (some c)=>@Bool.rec (fun _=>Res) none (some (.sl r o n z (some c),st)) (Nat.beq src dst && (isU8 P e && (Nat.blt 0 c && aliveCe st r)))
 | _=>none
def offIn (st:St) (r o:Nat):Bool:=match st.ce r with | some (l,_,_)=>Nat.blt o l.length | none=>false
def convUp (P:Program) (st:St) (t r o:Nat):Res:=@Bool.rec (fun _=>Res) none (some (.p r o,st)) (hasInfo P t && (Nat.blt 0 (szOf P t) && offIn st r o))
def convDown (P:Program) (st:St) (u r o:Nat):Res:=@Bool.rec (fun _=>Res) none (some (.p r o,st)) (hasInfo P u && (Nat.beq o 0 && (tyIs st r u && (Nat.blt 0 (szOf P u) && offIn st r (Nat.sub (szOf P u) 1)))))
def conv (P:Program) (st:St) (src dst:TypeId) (x:AV):Res:=match P.underlying src,P.underlying dst,x with
 | some _,some (.int k),.i _ n=>some (.i k (wr k n),st)
 | some _,some .string,.s l=>some (.s l,st)
 | some _,some .string,.i _ n=>(@Bool.rec (fun _=>_) none (some (.s [n.toNat],st)) (ilt n 128 && !ilt n 0))
 | some (.slice e),some .string,x=>match P.underlying e with
  | some (.int .u8)=>bytesStr st x
  | _=>none
 | some .string,some (.slice e),.s l=>match P.underlying e with
  | some (.int .u8)=>some (grow st 1 l.length (l.map fun b=>.i .u8 (Int.ofNat b)))
  | _=>none
 | some (.slice _),some (.slice e),x=>convSl P st src dst e x
 | some (.pointer t),some .unsafePointer,.p r o=>convUp P st t r o
 | some .unsafePointer,some (.pointer u),.p r o=>convDown P st u r o
 | _,_,_=>none
def opConvert (src dst:TypeId) (x:Operand):Han:=fun P _ t st=>conv P st src dst (evO t x)
def opMakeInterface (xt:TypeId) (x:Operand):Han:=fun P _ t st=>match P.underlying xt with
 | some (.interface _)=>none
 | some _=>some (.ifc xt (evO t x),st)
 | none=>none
def opMakeFunc (fn:Fn) (first captured:Array Operand):Han:=fun _ _ t st=>@Bool.rec (fun _=>Res) none (some (.f fn (args t first.toList) (args t captured.toList),st)) (notY fn)
def opMakeMap (r:Option Operand):Han:=fun _ _ _ st=>match r with
 | none=>some (.m st.next,st.new (.mp [] 0))
 | some _=>none
def opMakeSlice (ty:TypeId) (l c:Operand):Han:=fun P _ t st=>match elOf P ty,natOf (evO t l),natOf (evO t c) with
 | some e,some l,some c=>match zeroC P e with
  | some z=>(@Bool.rec (fun _=>_) none (some (.sl st.next 0 l (szOf P e) (some c),st.newCe (rep c z))) (Nat.ble l c && (Nat.ble c 1073741824 && Nat.ble (c * byOf P e) 1073741824)))
  | none=>none
 | _,_,_=>none
def opSlice (ty:TypeId) (x:Operand) (lo hi mx:Option Operand):Han:=fun P _ t st=>give st (sliceR P st ty (evO t x) (lo.map (evO t)) (hi.map (evO t)) (mx.map (evO t)))
def fieldAt (o:Nat) (st:St) (a:AV):Res :=
 match a.asP with
 | some (r,k)=>some (.p r (k+o),st)
 | none=>match a.asRp with
  | some c=>some (.rp (c.drop o),st)
  | none=>none
def opFieldAddr (s:TypeId) (x:Operand) (n:Nat):Han:=fun P _ t st=>match fieldOff P s n with
 | some o=>fieldAt o st (evO t x)
 | none=>none
def opField (s:TypeId) (x:Operand) (n:Nat):Han:=fun P _ t st=>match fieldOf P s n,evO t x with
 | some f,.ag cs=>give st (part P f.type cs f.offset)
 | _,_=>none
def opIndexAddr (ty:TypeId) (x ix:Operand):Han:=fun P _ t st=>give st (indexAddr P ty (evO t x) (evO t ix))
def opIndex (ty:TypeId) (x ix:Operand):Han:=fun P _ t st=>give st (index P ty (evO t x) (evO t ix))
def opLookup (ty:TypeId) (x ix:Operand) (ok:Bool):Han:=fun P _ t st=>give st (lookup P ty st (evO t x) (evO t ix) ok)
def opMapUpdate (ty:TypeId) (m k x:Operand):Han:=fun P _ t st=>done (mapUpdate P ty st (evO t m) (evO t k) (evO t x))
def bornAt:List (AV × AV × Nat)→Nat→Nat
 | [],_=>0
 | (_,_,b) :: _,0=>b
 | _ :: es,n+1=>bornAt es n
def entryNew (st:St) (r:Nat) (k:AV) (es:List (AV × AV × Nat)) (clock:Nat):Option AV→Res
 | some z=>some (.tu [z,.i .i64 (Int.ofNat clock)],st.put r (.mp (es++[(k,z,clock)]) (clock+1)))
 | none=>none
def entryIn (P:Program) (st:St) (e:TypeId) (r:Nat) (k:AV):Option Row→Res
 | some (.mp es clock)=>match find k es 0 with
  | some (some (i,v))=>some (.tu [v,.i .i64 (Int.ofNat (bornAt es i))],st.put r (.mp es clock))
  | some none=>entryNew st r k es clock (zeroOf P e)
  | none=>none
 | _=>none
def mapEntry (P:Program) (ty:TypeId) (st:St) (x k:AV):Res :=
 @Bool.rec (fun _=>Res) none (match P.underlying ty,x with
  | some (.map _ e),.m r=>entryIn P st e r k (st.get r)
  | _,_=>none) (keyFits P ty k)
def findBorn (b:Nat):List (AV × AV × Nat)→Nat→Option Nat
 | [],_=>none
 | (_,_,c) :: es,n=>@Bool.rec (fun _=>Option Nat) (findBorn b es (n+1)) (some n) (Nat.beq c b)
def storeIn (st:St) (r:Nat) (v:AV) (es:List (AV × AV × Nat)) (clock:Nat):Option Nat→Option St
 | some i=>some (st.put r (.mp (setVal es i v) clock))
 | none=>none
def entryStore (st:St) (v:AV):AV→Option Nat→Option St
 | .m r,some b=>match st.get r with
  | some (.mp es clock)=>storeIn st r v es clock (findBorn b es 0)
  | _=>none
 | _,_=>none
def opMapEntry (ty:TypeId) (m k:Operand):Han:=fun P _ t st=>mapEntry P ty st (evO t m) (evO t k)
def opEntryStore (m s x:Operand):Han:=fun _ _ t st=>done (entryStore st (evO t x) (evO t m) (natOf (evO t s)))
def rangeOf (P:Program) (ty:TypeId) (st:St) (x:AV):Res:=match P.underlying ty,x with
 | some .string,.s l=>some (.p st.next 0,st.new (.si l 0))
 | some (.map _ _),.mn=>some (.p st.next 0,st.new (.mi none 0 [] 0))
 | some (.map _ _),.m r=>match st.get r with
  | some (.mp _ clock)=>some (.p st.next 0,st.new (.mi (some r) clock [] clock))
  | _=>none
 | _,_=>none
def opRange (ty:TypeId) (x:Operand):Han:=fun P _ t st=>rangeOf P ty st (evO t x)
def left (seen:List Nat) (es:List (AV × AV × Nat)):List (AV × AV × Nat):=es.filter fun e=>!mem e.2.2 seen
def nextM (st:St) (r m since:Nat) (seen:List Nat) (last:Nat) (es:List (AV × AV × Nat)) (clock:Nat):Res :=
 (@Bool.rec (fun _=>_) (
  match left seen es with
  | []=>some (.tu [.b false],st)
  | [(k,v,b)]=>(@Bool.rec (fun _=>_) none (some (.tu [.b true,k,v],st.put r (.mi (some m) since (seen++[b]) clock))) (Nat.blt b since))
  | _=>none) none (!seen.isEmpty && !es.isEmpty && es.all fun e=>Nat.ble last e.2.2))
def nextOf (st:St) (isS:Bool):AV→Res
 | .p r 0=>match st.get r,isS with
  | some (.si l n),true=>match l.drop n with
   | []=>some (.tu [.b false],st)
   | c :: _=>(@Bool.rec (fun _=>_) none (some (.tu [.b true,.i .i64 (Int.ofNat n),.i .i32 (Int.ofNat c)],st.put r (.si l (n+1)))) (Nat.blt c 128))
  | some (.mi none _ _ _),false=>some (.tu [.b false],st)
  | some (.mi (some m) since seen last),false=>match st.get m with
   | some (.mp es clock)=>nextM st r m since seen last es clock
   | _=>none
  | _,_=>none
 | _=>none
def opNext (it:Operand) (isS:Bool):Han:=fun _ _ t st=>nextOf st isS (evO t it)
def lastN:List Nat→Option Nat
 | []=>none
 | [x]=>some x
 | _ :: l=>lastN l
def findB (b:Nat) (st:St):List (AV × AV × Nat)→Res
 | []=>none
 | (k,v,n) :: l=>@Bool.rec (fun _=>Res) (findB b st l) (some (.tu [k,v],st)) (Nat.beq n b)
def entryM (st:St) (es:List (AV × AV × Nat)) (clock stepped:Nat):Option Nat→Res
 | some b=>@Bool.rec (fun _=>Res) none (findB b st es) (Nat.beq clock stepped)
 | none=>none
def entryOf (st:St):AV→Res
 | .p r 0=>match st.get r with
  | some (.mi (some m) _ seen stepped)=>match st.get m with
   | some (.mp es clock)=>entryM st es clock stepped (lastN seen)
   | _=>none
  | _=>none
 | _=>none
def opEntry (it:Operand):Han:=fun _ _ t st=>entryOf st (evO t it)
def assertOf (P:Program) (as:TypeId) (ok:Bool) (st:St):AV→Res
 | .ifc ty v=>match P.underlying as with
  | some (.interface want)=>match P.info? ty with
   | some i=>match Instr.missingMethod want i.methods with
    | none=>some (cond ok (.tu [.ifc ty v,.b true]) (.ifc ty v),st)
    | some _=>none
   | none=>none
  | some _=>(@Bool.rec (fun _=>_) (cond ok (match zeroOf P as with | some z=>some (.tu [z,.b false],st) | none=>none) none) (some (cond ok (.tu [v,.b true]) v,st)) (Nat.beq ty as))
  | none=>none
 | _=>none
def opTypeAssert (x:Operand) (as:TypeId) (ok:Bool):Han:=fun P _ t st=>assertOf P as ok st (evO t x)
def nth (n:Nat) (st:St):AV→Res
 | .tu l=>give st l[n]?
 | _=>none
def opExtract (x:Operand) (n:Nat):Han:=fun _ _ t st=>nth n st (evO t x)
def callV (P:Program) (S:Self) (st:St) (as:List AV):AV→Res
 | .f (.func f) first captured=>callF P S f (first++(as++captured)) st
 | .f (.yield l) [] []=>round S l as st
 | _=>none
def callI (P:Program) (S:Self) (st:St) (name:String) (as:List AV):AV→Res
 | .ifc ty v=>match methodOf P ty name with
  | some f=>callF P S f (v :: as) st
  | none=>none
 | _=>none
def opCall (c:Call):Han:=fun P S t st=>match c.callee with
 | .builtin b=>bui b P st c.argTypes.toList (args t c.args.toList)
 | .value f=>callV P S st (args t c.args.toList) (evO t f)
 | .invoke r name=>callI P S st name (args t c.args.toList) (evO t r)
def opNone:Han:=fun _ _ _ _=>none
def elChan (P:Program) (t:TypeId):Option TypeId:=match P.underlying t with | some (.chan _ e)=>some e | _=>none
def opMakeChan (ty:TypeId) (s:Operand):Han:=fun P _ t st=>match elChan P ty,natOf (evO t s) with
 | some e,some n=>@Bool.rec (fun _=>Res) none (some (.c st.next,st.new (.ch n []))) (hasInfo P e && (Nat.ble n 1073741824 && Nat.ble (byOf P e) 1024))
 | _,_=>none
def sendOf (st:St) (x:AV):AV→Res
 | .c r=>match st.get r with
  | some (.ch cap buf)=>@Bool.rec (fun _=>Res) none (some (.un,st.put r (.ch cap (buf++[x])))) (Nat.blt buf.length cap)
  | _=>none
 | _=>none
def opSend (ch x:Operand):Han:=fun _ _ t st=>sendOf st (evO t x) (evO t ch)
def takeOf (st:St) (z:AV):AV→Res
 | .c r=>match st.get r with
  | some (.ch cap (x :: buf))=>some (.tu [.i .i64 0,.b true,x],st.put r (.ch cap buf))
  | some (.ch _ [])=>some (.tu [.i .i64 (-1),.b false,z],st)
  | _=>none
 | _=>none
def takeZ (st:St) (v:AV):Option AV→Res
 | some z=>takeOf st z v
 | none=>none
def opSelect (cs:Array SelectCase) (bl:Bool):Han:=fun P _ t st=>match cs.toList,bl with
 | [s],false=>match s.send with
  | none=>takeZ st (evO t s.chan) (zeroOf P s.elem)
  | some _=>none
 | _,_=>none
def opH (o:Op):Han :=
 @Op.rec (fun _=>Han) opMove opMove opPick opAlloc (fun _ x=>opBox x) opBuild opBuildSlice opMapUpdate opLoad opStore (fun _=>opNone) (fun _=>opNone) opNilCheck
  (fun op ty x y _=>opBin op ty x y) (fun op _ x=>opUn op x) opConvert (fun _ _=>opNone) opMakeInterface opMakeFunc (fun _ r=>opMakeMap r) opMakeChan opMakeSlice opSlice opFieldAddr opField
  opIndexAddr opIndex opLookup opMapUpdate opMapEntry (fun _ m s x=>opEntryStore m s x) opRange opNext opEntry (fun x _ as ok=>opTypeAssert x as ok) opExtract opCall (fun _=>opNone) (fun _=>opNone)
  (fun _=>opNone) opSend (fun _ _ _=>opNone) opSelect o
def evOp (P:Program) (S:Self) (t:Tr AV) (st:St) (o:Oper):Res:=opH o.op P S t st
def AV.seen {β:Type} (v:AV) (k:AV→β):β :=
 @AV.rec (fun _=>_) (fun _=>PUnit.{1}) (fun k:AV→β=>k .bad) (fun k=>k .un) (fun x k=>k (.b x)) (fun d n k=>k (.i d n)) (fun l k=>k (.s l)) (fun r o k=>k (.p r o)) (fun k=>k .pn) (fun g k=>k (.gp g)) (fun y0 _=>(fun c k=>k (.rp c)) y0) (fun r o n z c k=>k (.sl r o n z c)) (fun k=>k .sn) (fun y0 y1 y2 _=>(fun c n z k=>k (.rs c n z)) y0 y1 y2) (fun r k=>k (.m r)) (fun k=>k .mn) (fun y0 y1 y2 _ _=>(fun g x y k=>k (.f g x y)) y0 y1 y2) (fun k=>k .fn0) (fun y0 y1 _=>(fun t u k=>k (.ifc t u)) y0 y1) (fun k=>k .if0) (fun y0 _=>(fun l k=>k (.ag l)) y0) (fun y0 _=>(fun l k=>k (.tu l)) y0) (fun r k=>k (.c r)) (fun k=>k .cn) ⟨⟩ (fun _ _ _ _=>⟨⟩) v k
theorem AV.seen_eq {β:Type} (v:AV) (k:AV→β):v.seen k=k v:=by cases v <;> rfl
def AV.isUn (v:AV):Bool :=
 @AV.rec (fun _=>_) (fun _=>PUnit.{1}) false true (fun _=>false) (fun _ _=>false) (fun _=>false) (fun _ _=>false) false (fun _=>false) (fun y0 _=>(fun _=>false) y0) (fun _ _ _ _ _=>false) false (fun y0 y1 y2 _=>(fun _ _ _=>false) y0 y1 y2) (fun _=>false) false (fun y0 y1 y2 _ _=>(fun _ _ _=>false) y0 y1 y2) false (fun y0 y1 _=>(fun _ _=>false) y0 y1) false (fun y0 _=>(fun _=>false) y0) (fun y0 _=>(fun _=>false) y0) (fun _=>false) false ⟨⟩ (fun _ _ _ _=>⟨⟩) v
theorem AV.isUn_true {v:AV} (h:v.isUn=true):v = .un:=by cases v <;> first | rfl | cases h
def guardV (want:Bool):Option AV→Option Bool
 | some v=>match v.asB with
  | some x=>some (x == want)
  | none=>cond v.isUn (some false) none
 | none=>some false
def guardBy (ops:Array Oper) (t:Tr AV) (j:Nat) (want:Bool):Option Bool :=
 match ops[j]? with
 | some g=>match g.dst with
  | some d=>guardV want (t.get d)
  | none=>none
 | none=>none
def guardOk (ops:Array Oper) (t:Tr AV) (o:Oper):Option Bool :=
 match o.guard with
 | none=>some true
 | some (j,want)=>guardBy ops t j want
def putT (nt:Nat) (t:Tr AV) (d:Option Tmp) (v:AV):Option (Tr AV) :=
 match d with
 | none=>some t
 | some d=>(@Bool.rec (fun _=>_) none (v.seen fun v=>some (t.set d (some v))) (Nat.blt d nt))
def Tr.seen {α:Type} {β:Type} (t:Tr α) (k:Tr α→β):β :=
 @Tr.rec α (fun _=>(Tr α→β)→β) (fun k=>k .lf) (fun v l r _ _ k=>k (.nd v l r)) t k
theorem Tr.seen_eq {α β:Type} (t:Tr α) (k:Tr α→β):t.seen k=k t:=by cases t <;> rfl
def onT (o:Option (Tr AV)) (k:Tr AV→Out):Out :=
 match o with
 | some t=>t.seen k
 | none=>.no
def onV (nt:Nat) (t:Tr AV) (d:Option Tmp) (r:Res) (k:Tr AV→St→Out):Out :=
 match r with
 | some (v,st)=>onT (putT nt t d v) fun t=>k t st
 | none=>.no
def selfF (P:Program) (e:Nat):List Field→Bool
 | f :: _=>match P.underlying f.type with | some (.pointer e')=>Nat.beq e' e | _=>false
 | []=>false
def selfPtr (P:Program) (e:TypeId):Bool:=match P.underlying e with | some (.struct fs)=>selfF P e fs.toList | _=>false
def onG (P:Program) (S:Self) (nt:Nat) (o:Oper) (t:Tr AV) (st:St) (k:Tr AV→St→Out):Option Bool→Out
 | some true=>onV nt t o.dst (evOp P S t st o) k
 | some false=>onT (putT nt t o.dst .un) fun t=>k t st
 | none=>.no
def evOps (P:Program) (S:Self) (nt:Nat) (ops:Array Oper) (l:List Oper):Tr AV→St→Out :=
 @List.rec Oper (fun _=>Tr AV→St→Out) (fun t st=>.nx t st) (fun o _ k t st=>onG P S nt o t st k (guardOk ops t o)) l
def kind:Op→Nat
 | .move _ | .assign _ | .pick _ _ _ | .build _ _ | .nilCheck _ | .binOp _ _ _ _ _ | .unOp _ _ _ | .field _ _ _ | .fieldAddr _ _ _ | .indexAddr _ _ _ | .index _ _ _ | .extract _ _ | .makeInterface _ _
 | .makeFunc _ _ _=>0
 | .load _ _ | .lookup _ _ _ _ | .slice _ _ _ _ _=>1
 | .call { callee:=.builtin .len,.. }=>1
 | .alloc _ | .box _ _ | .buildSlice _ _ _=>2
 | _=>3
def ahead (acc:List Nat):List Edge→Option Nat
 | []=>some 0
 | e :: l=>match ahead acc l with
  | none=>none
  | some m=>cond (Region.binds .any e) (match acc[e.on]? with | some k=>some (Nat.lor m (Nat.lor (2 ^ e.on) k)) | none=>none) (some m)
def befs:List Oper→List Nat→Option (List Nat)
 | [],acc=>some acc
 | o :: l,acc=>match ahead acc o.after.toList with
  | some m=>befs l (acc++[m])
  | none=>none
def sameDst (x y:Oper):Bool :=
 match x.dst with
 | some d=>y.dst == some d
 | none=>false
def clash (a b:Nat):Bool:=Nat.ble 2 a && Nat.beq b 3
def pairOk (ops:Array Oper) (x y:Oper) (o:Bool):Bool:=!sameDst x y && (o || (Oper.apart ops x y && !clash (kind x.op) (kind y.op)))
def readersOk (ops:Array Oper) (y:Oper) (i:Nat):List Oper→List Nat→Bool
 | o :: l,b :: bs=>(cond (match y.dst with | some d=>(o.looksAt ops).contains d | none=>false) (Nat.testBit b i) true) && readersOk ops y i l bs
 | _,_=>true
def earlyOk (ops:Array Oper) (bs:List Nat) (x y:Oper) (i:Nat) (o:Bool):Bool:=cond (Nat.beq (kind x.op) 3 && (Nat.beq (kind y.op) 2 && !o)) (readersOk ops y i ops.toList bs) true
def pairsOk (ops:Array Oper) (bs:List Nat) (y:Oper) (bj:Nat):List Oper→Nat→Bool
 | [],_=>true
 | x :: l,i=>(pairOk ops x y (Nat.testBit bj i) && earlyOk ops bs x y i (Nat.testBit bj i)) && pairsOk ops bs y bj l (i+1)
def isSel:Op→Bool
 | .select _ _=>true
 | _=>false
def drawOkF (ops:Array Oper) (all:List Nat):List Oper→List Oper→List Nat→Bool
 | _,[],[]=>true
 | done,y :: l,b :: bs=>(!isSel y.op && pairsOk ops all y b done 0) && drawOkF ops all (done++[y]) l bs
 | _,_,_=>false
def anyK (b p:Nat):List Nat→Nat→Bool
 | [],_=>false
 | k :: l,i=>(Nat.ble p i && (Nat.beq k 3 && Nat.testBit b i)) || anyK b p l (i+1)
def calm (p j:Nat):List Nat→Nat→Bool
 | [],_=>true
 | k :: l,i=>(Nat.blt i p || (Nat.ble j i || Nat.blt k 2)) && calm p j l (i+1)
def numAt (l:List Nat) (i:Nat):Nat:=match l[i]? with | some k=>k | none=>0
def aheadOf (bs:List Nat) (p j:Nat):Bool:=match p with | 0=>false | p+1=>Nat.testBit (numAt bs p) j
def pinned (ks bs:List Nat) (j p:Nat):Bool:=aheadOf bs p j || (anyK (numAt bs j) p ks 0 || (Nat.ble p j && calm p j ks 0))
def starts:List Nat→Nat→List Nat
 | [],_=>[]
 | k :: l,i=>cond (Nat.beq k 3) ((i+1) :: starts l (i+1)) (starts l (i+1))
def floatsOf (ks bs:List Nat) (ps:List Nat):List Nat→Nat→List (Nat × Nat)
 | [],_=>[]
 | k :: l,j=>cond (Nat.beq k 1) ((ps.filter fun p=>!pinned ks bs j p).map (fun p=>(j,p))++floatsOf ks bs ps l (j+1)) (floatsOf ks bs ps l (j+1))
def plan (ops:Array Oper):Option (List (Nat × Nat)) :=
 match befs ops.toList [] with
 | some bs=>cond (drawOkF ops bs [] ops.toList bs) (some (floatsOf (ops.toList.map fun o=>kind o.op) bs (0 :: starts (ops.toList.map fun o=>kind o.op) 0) (ops.toList.map fun o=>kind o.op) 0)) none
 | none=>none
def all2 (f:AV→AV→Bool):List AV→List AV→Bool
 | [],[]=>true
 | a :: l,b :: m=>cond (f a b) (all2 f l m) false
 | _,_=>false
def sameCap:Option Nat→Option Nat→Bool
 | some a,some b=>Nat.beq a b
 | none,none=>true
 | _,_=>false
def avEq:Nat→AV→AV→Bool
 | 0,_,_=>false
 | n+1,a,b=>match a,b with
  | .un,.un=>true
  | .b x,.b y=>cond x y (!y)
  | .i k a,.i k' b=>keq k k' && ieq a b
  | .s l,.s l'=>leq l l'
  | .p r o,.p r' o'=>Nat.beq r r' && Nat.beq o o'
  | .pn,.pn=>true
  | .gp g,.gp g'=>Nat.beq g g'
  | .rp c,.rp c'=>all2 (avEq n) c c'
  | .sl r o m z c,.sl r' o' m' z' c'=>Nat.beq r r' && (Nat.beq o o' && (Nat.beq m m' && (Nat.beq z z' && sameCap c c')))
  | .sn,.sn=>true
  | .rs c m z,.rs c' m' z'=>Nat.beq m m' && (Nat.beq z z' && all2 (avEq n) c c')
  | .m r,.m r'=>Nat.beq r r'
  | .mn,.mn=>true
  | .f (.func g) [] [],.f (.func g') [] []=>Nat.beq g g'
  | .fn0,.fn0=>true
  | .ifc t v,.ifc t' v'=>Nat.beq t t' && avEq n v v'
  | .if0,.if0=>true
  | .ag l,.ag l'=>all2 (avEq n) l l'
  | .tu l,.tu l'=>all2 (avEq n) l l'
  | _,_=>false
structure Rec where
 t:Tr AV
 st:St
 v:AV
 w:Bool
def onRec (r:Rec):Option (List Rec)→Option (List Rec)
 | some l=>some (r :: l)
 | none=>none
def recsT (r:Rec) (o:Option (Tr AV)) (k:Tr AV→Option (List Rec)):Option (List Rec) :=
 match o with
 | some t=>onRec r (k t)
 | none=>none
def recsV (nt:Nat) (t:Tr AV) (st:St) (d:Option Tmp) (r:Option (AV × St)) (k:Tr AV→St→Option (List Rec)):Option (List Rec) :=
 match r with
 | some (v,st')=>recsT ⟨t,st,v,true⟩ (putT nt t d v) fun t=>k t st'
 | none=>none
def recs (P:Program) (S:Self) (nt:Nat) (ops:Array Oper):List Oper→Tr AV→St→Option (List Rec)
 | [],t,st=>some [⟨t,st,.un,false⟩]
 | o :: l,t,st=>match guardOk ops t o with
  | some true=>recsV nt t st o.dst (evOp P S t st o) (recs P S nt ops l)
  | some false=>recsT ⟨t,st,.un,false⟩ (putT nt t o.dst .un) fun t=>recs P S nt ops l t st
  | none=>none
def eqCl (a b:AV):Bool:=@decide (a=b) (Classical.propDecidable _)
def sameR (v:AV):Option (AV × St)→Bool
 | some (u,_)=>avEq 4 v u || eqCl v u
 | none=>false
def recheckO (P:Program) (S:Self) (r q:Rec):Option Oper→Bool
 | some o=>cond r.w (sameR r.v (evOp P S r.t q.st o)) true
 | none=>false
def recheck (P:Program) (S:Self) (ops:Array Oper) (R:List Rec) (jp:Nat × Nat):Bool :=
 match R[jp.1]?,R[jp.2]? with
 | some r,some q=>recheckO P S r q ops[jp.1]?
 | _,_=>false
def lastOf:List Rec→Out
 | []=>.no
 | [r]=>.nx r.t r.st
 | _ :: l=>lastOf l
def drawR (P:Program) (S:Self) (ops:Array Oper) (fl:List (Nat × Nat)):Option (List Rec)→Out
 | some R=>cond (fl.all (recheck P S ops R)) (lastOf R) .no
 | none=>.no
def mkOf (o:Oper):Option Tmp :=
 match o.guard with
 | some _=>none
 | none=>match o.op with
  | .makeMap _ none=>o.dst
  | _=>none
def insOf (d:Tmp) (o:Oper):Option (TypeId × Operand × Operand) :=
 match o.guard,o.dst with
 | none,none=>match o.op with
  | .insert ty (.tmp e) k x=>cond (Nat.beq e d) (some (ty,k,x)) none
  | _=>none
 | _,_=>none
def absOp (d:Tmp) (o:Oper):Oper :=
 match insOf d o with
 | some (_,k,x)=>{ o with op:=.makeFunc (.func 0) #[] #[k,x] }
 | none=>cond (o.dst == some d) { o with op:=.move (.const (.bool true)),dst:=none } o
def findMk:List Oper→Nat→Option (Nat × Tmp)
 | [],_=>none
 | o :: l,i=>match mkOf o with
  | some d=>some (i,d)
  | none=>findMk l (i+1)
def lastIns (d:Tmp):List Oper→Nat→Nat→Nat
 | [],_,h=>h
 | o :: l,i,h=>lastIns d l (i+1) (match insOf d o with | some _=>i+1 | none=>h)
def guardNot (o:Oper) (i0 h:Nat):Bool :=
 match o.guard with
 | some (g,_)=>Nat.blt g h && !Nat.beq g i0
 | none=>true
def headOk (aops:Array Oper) (d:Tmp) (i0 h:Nat):List Oper→List Nat→Nat→Bool
 | [],_,_=>true
 | o :: l,b :: bs,j=>(!((absOp d o).looksAt aops).contains d && (guardNot o i0 h &&
   (match insOf d o with | some _=>Nat.testBit b i0 | none=>Nat.beq j i0 || !(o.dst == some d)))) && headOk aops d i0 h l bs (j+1)
 | _,[],_=>false
def allBits (b:Nat):Nat→Bool
 | 0=>true
 | n+1=>Nat.testBit b n && allBits b n
def tailOk:List Nat→Nat→Bool
 | [],_=>true
 | b :: bs,j=>allBits b j && tailOk bs (j+1)
structure PlanM where
 i0:Nat
 d:Tmp
 h:Nat
 aops:Array Oper
 fl:List (Nat × Nat)
def planM2 (ops aops:Array Oper) (i0:Nat) (d:Tmp) (h:Nat):Option PlanM :=
 match befs aops.toList [],befs ops.toList [] with
 | some bs,some bsF=>cond ((Nat.blt i0 h && Nat.ble h ops.size) && (drawOkF aops bs [] aops.toList bs && (headOk aops d i0 h (ops.toList.take h) bs 0 && tailOk (bsF.drop h) h)))
   (some ⟨i0,d,h,aops,floatsOf (aops.toList.map fun o=>kind o.op) bs (0 :: starts (aops.toList.map fun o=>kind o.op) 0) (aops.toList.map fun o=>kind o.op) 0⟩) none
 | _,_=>none
def planM (ops:Array Oper):Option PlanM :=
 match findMk ops.toList 0 with
 | some (i0,d)=>planM2 ops ((ops.toList.take (lastIns d ops.toList 0 (i0+1))).map (absOp d)).toArray i0 d (lastIns d ops.toList 0 (i0+1))
 | none=>none
def kvOf:AV→Option (AV × AV)
 | .f _ [] [k,x]=>some (k,x)
 | _=>none
def isFalse:Option Bool→Bool
 | some false=>true
 | _=>false
def freshK (k:AV):List (AV × AV)→Bool
 | []=>true
 | (x,_) :: es=>(isFalse (eqS k x) && isFalse (eqS x k)) && freshK k es
def kvs (P:Program) (d:Tmp):List Oper→List Rec→Option (List (AV × AV))
 | [],_=>some []
 | o :: l,r :: R=>match insOf d o,kvs P d l R with
  | some (ty,_,_),some es=>match kvOf r.v with
   | some kv=>cond (keyFits P ty kv.1 && freshK kv.1 es) (some (kv :: es)) none
   | none=>none
  | none,r=>r
  | _,none=>none
 | _,[]=>none
def mapTail (P:Program) (S:Self) (nt:Nat) (ops:Array Oper) (h:Nat) (es:List (AV × AV)) (st:St):Option (Tr AV)→Out
 | some t=>t.seen fun t=>evOps P S nt ops (ops.toList.drop h) t (st.new (.mu es))
 | none=>.no
def mapEnd (P:Program) (S:Self) (nt:Nat) (ops:Array Oper) (d:Tmp) (h:Nat) (es:List (AV × AV)):Out→Out
 | .nx t st=>mapTail P S nt ops h es st (putT nt t (some d) (.m st.next))
 | _=>.no
def drawMR (P:Program) (S:Self) (nt:Nat) (ops:Array Oper) (m:PlanM):Option (List Rec)→Out
 | some R=>cond (m.fl.all (recheck P S m.aops R)) (match kvs P m.d (ops.toList.take m.h) R with | some es=>mapEnd P S nt ops m.d m.h es (lastOf R) | none=>.no) .no
 | none=>.no
def renE (τ:List Nat) (e:Edge):Edge:={ e with on:=numAt τ e.on }
def renG (τ:List Nat):Option (Nat × Bool)→Option (Nat × Bool)
 | some (g,w)=>some (numAt τ g,w)
 | none=>none
def renO (τ:List Nat) (o:Oper):Oper:={ o with after:=(o.after.toList.map (renE τ)).toArray,guard:=renG τ o.guard }
def reorder (ops:Array Oper) (τ:List Nat):List Nat→Option (List Oper)
 | []=>some []
 | i :: l=>match ops[i]?,reorder ops τ l with
  | some o,some r=>some (renO τ o :: r)
  | _,_=>none
def idxIn (i:Nat):List Nat→Nat→Nat
 | [],k=>k
 | x :: l,k=>cond (Nat.beq x i) k (idxIn i l (k+1))
def emits (b m:Nat):Nat→List Nat
 | 0=>[]
 | k+1=>emits b m k++cond (Nat.testBit b k && !Nat.testBit m k) [k] []
def orderK:List Nat→List Nat→Nat→Nat→List Nat
 | k :: ks,b :: bs,i,m=>cond (Nat.beq k 3) (emits b m i++(i :: orderK ks bs (i+1) (Nat.lor m (Nat.lor b (2 ^ i))))) (orderK ks bs (i+1) m)
 | _,_,n,m=>emits (2 ^ n - 1) m n
def permOk (n:Nat) (σ τ:List Nat):Nat→Bool
 | 0=>true
 | k+1=>(Nat.blt (numAt σ k) n && (Nat.blt (numAt τ k) n && (Nat.beq (numAt σ (numAt τ k)) k && Nat.beq (numAt τ (numAt σ k)) k))) && permOk n σ τ k
def guardIn (n:Nat):Option (Nat × Bool)→Bool
 | some (g,_)=>Nat.blt g n
 | none=>true
def guardsIn (n:Nat):List Oper→Bool
 | []=>true
 | o :: l=>guardIn n o.guard && guardsIn n l
structure PlanS where
 σ:List Nat
 τ:List Nat
 pops:Array Oper
 fl:List (Nat × Nat)
def planS4 (ops:Array Oper) (σ τ:List Nat) (pops:Array Oper):Option (List (Nat × Nat))→Option PlanS
 | some fl=>cond (Nat.beq pops.size ops.size && (permOk ops.size σ τ ops.size && guardsIn ops.size ops.toList)) (some ⟨σ,τ,pops,fl⟩) none
 | none=>none
def planS3 (ops:Array Oper) (σ τ:List Nat):Option (List Oper)→Option PlanS
 | some l=>planS4 ops σ τ l.toArray (plan l.toArray)
 | none=>none
def planS2 (ops:Array Oper) (σ τ:List Nat):Option PlanS:=planS3 ops σ τ (reorder ops τ σ)
def planS1 (ops:Array Oper) (σ:List Nat):Option PlanS:=planS2 ops σ ((List.range ops.size).map fun i=>idxIn i σ 0)
def planS (ops:Array Oper):Option PlanS :=
 match befs ops.toList [] with
 | some bs=>planS1 ops (orderK (ops.toList.map fun o=>kind o.op) bs 0 0)
 | none=>none
def orderW (n:Nat):List Nat→List Nat→Nat→Nat→List Nat
 | k :: ks,b :: bs,i,m=>cond (Nat.beq k 3) (emits b m n++(i :: orderW n ks bs (i+1) (Nat.lor m (Nat.lor b (2 ^ i))))) (orderW n ks bs (i+1) m)
 | _,_,_,m=>emits (2 ^ n - 1) m n
def widen (x y:Nat) (bs:List Nat):List Nat:=bs.set x (Nat.lor (numAt bs x) (Nat.sub (numAt bs y) (2 ^ x)))
def planSW (ops:Array Oper) (x y:Nat):Option PlanS :=
 match befs ops.toList [] with
 | some bs=>planS1 ops (orderW ops.size (ops.toList.map fun o=>kind o.op) (widen x y bs) 0 0)
 | none=>none
def drawS (P:Program) (S:Self) (nt:Nat) (t:Tr AV) (st:St):Option PlanS→Out
 | some m=>drawR P S m.pops m.fl (recs P S nt m.pops m.pops.toList t st)
 | none=>.no
def edgeAt (x:Nat):Edge:=⟨x,.data⟩
def withEdge (x:Nat) (o:Oper):Oper:={ o with after:=o.after.push (edgeAt x) }
def addEdge (x:Nat):Nat→List Oper→List Oper
 | _,[]=>[]
 | 0,o :: l=>withEdge x o :: l
 | y+1,o :: l=>o :: addEdge x y l
def swapI (k i:Nat):Nat:=cond (Nat.beq i k) (k+1) (cond (Nat.beq i (k+1)) k i)
def noEdge (k:Nat) (o:Oper):Oper:={ o with after:=(o.after.toList.filter fun e=>!(Nat.beq e.on k)).toArray }
def swE (k:Nat) (e:Edge):Edge:=⟨swapI k e.on,e.ground⟩
def swO (k:Nat) (o:Oper):Oper:={ o with after:=(o.after.toList.map (swE k)).toArray }
def edB (k i:Nat) (o:Oper):Oper:=cond (Nat.beq i k) (swO k (withEdge (k+1) o)) (cond (Nat.beq i (k+1)) (swO k (noEdge k o)) (swO k o))
def mapI (f:Nat→Oper→Oper):Nat→List Oper→List Oper
 | _,[]=>[]
 | i,o :: l=>f i o :: mapI f (i+1) l
def swapL:Nat→List Oper→List Oper
 | 0,x :: y :: r=>y :: x :: r
 | k+1,o :: r=>o :: swapL k r
 | _,l=>l
def otherWay (k:Nat) (pops:Array Oper):Array Oper:=(swapL k (mapI (edB k) 0 pops.toList)).toArray
def guardOut (k:Nat) (o:Oper):Bool:=match o.guard with | some (g,_)=>!(Nat.beq g k) && !(Nat.beq g (k+1)) | none=>true
def moreEdge (x y:Nat) (ops:Array Oper):Array Oper:=(addEdge x y ops.toList).toArray
structure PlanT where
 m:PlanS
 k:Nat
 flB:List (Nat × Nat)
def isSt (o:Oper):Bool:=match o.op,o.dst,o.guard with
 | .store _ _ _,none,none=>true
 | _,_,_=>false
def stAt (pops:Array Oper) (i:Nat):Bool:=match pops[i]? with | some o=>isSt o | none=>false
def openIn (b:Nat):List Nat→Nat→Option Nat
 | [],_=>none
 | k :: ks,i=>cond (Nat.beq k 3 && !Nat.testBit b i) (some i) (openIn b ks (i+1))
def openPair (ks:List Nat):List Nat→List Nat→Nat→Option (Nat × Nat)
 | k :: r,b :: bs,i=>cond (Nat.beq k 3) (match openIn b (ks.take i) 0 with | some x=>some (x,i) | none=>openPair ks r bs (i+1)) (openPair ks r bs (i+1))
 | _,_,_=>none
def planT3 (m:PlanS) (k:Nat):Option (List (Nat × Nat))→Option PlanT
 | some fl=>cond (stAt m.pops k && (stAt m.pops (k+1) && m.pops.toList.all (guardOut k))) (some ⟨m,k,fl⟩) none
 | none=>none
def planT2 (x y:Nat):Option PlanS→Option PlanT
 | some m=>cond (Nat.beq (numAt m.τ y) (numAt m.τ x+1)) (planT3 m (numAt m.τ x) (plan (otherWay (numAt m.τ x) m.pops))) none
 | none=>none
def planT1 (ops:Array Oper):Option (Nat × Nat)→Option PlanT
 | some (x,y)=>cond (Nat.blt x ops.size && (Nat.blt y ops.size && !Nat.beq x y)) (planT2 x y (planSW (moreEdge x y ops) x y)) none
 | none=>none
def planT (ops:Array Oper):Option PlanT :=
 match befs ops.toList [] with
 | some bs=>planT1 ops (openPair (ops.toList.map fun o=>kind o.op) (ops.toList.map fun o=>kind o.op) bs 0)
 | none=>none
def apart2 (r:Rec):Op→Op→Bool
 | .store _ a1 _,.store _ a2 _=>match (evO r.t a1).asP,(evO r.t a2).asP with
  | some (r1,_),some (r2,_)=>match r.st.ce r1,r.st.ce r2 with
   | some (_,g1,_),some (_,g2,_)=>!(Nat.beq r1 r2) && !(Nat.beq g1 g2)
   | _,_=>false
  | _,_=>false
 | _,_=>false
def apartAt (pops:Array Oper) (k:Nat) (R:List Rec):Bool:=match R[k]?,pops[k]?,pops[k+1]? with
 | some r,some x,some y=>apart2 r x.op y.op
 | _,_,_=>false
def drawT2 (P:Program) (S:Self) (m:PlanT):Option (List Rec)→Option (List Rec)→Out
 | some RA,some RB=>cond (m.m.fl.all (recheck P S m.m.pops RA) && (m.flB.all (recheck P S (otherWay m.k m.m.pops) RB) && apartAt m.m.pops m.k RA)) (lastOf RA) .no
 | _,_=>.no
def drawT (P:Program) (S:Self) (nt:Nat) (t:Tr AV) (st:St):Option PlanT→Out
 | some m=>drawT2 P S m (recs P S nt m.m.pops m.m.pops.toList t st) (recs P S nt (otherWay m.k m.m.pops) (otherWay m.k m.m.pops).toList t st)
 | none=>.no
def drawST (P:Program) (S:Self) (nt:Nat) (ops:Array Oper) (t:Tr AV) (st:St):Option PlanS→Out
 | some m=>drawS P S nt t st (some m)
 | none=>drawT P S nt t st (planT ops)
def drawM (P:Program) (S:Self) (nt:Nat) (ops:Array Oper) (t:Tr AV) (st:St):Option PlanM→Out
 | some m=>drawMR P S nt ops m (recs P S nt m.aops m.aops.toList t st)
 | none=>drawST P S nt ops t st (planS ops)
def drawP (P:Program) (S:Self) (nt:Nat) (ops:Array Oper) (t:Tr AV) (st:St):Option (List (Nat × Nat))→Out
 | some fl=>drawR P S ops fl (recs P S nt ops ops.toList t st)
 | none=>drawM P S nt ops t st (planM ops)
structure Ctx where
 P:Program
 S:Self
 inR:Bool
 nt:Nat
 n:Nat
def thenC (o:Out) (k:Tr AV→St→Out):Out :=
 match o with
 | .nx t st=>k t st
 | o=>o
def blockC (id:Nat):Out→Out
 | .ex i t st=>(@Bool.rec (fun _=>_) (.ex i t st) (.nx t st) (Nat.beq i id))
 | o=>o
def condC (x y:Tr AV→St→Out) (t:Tr AV) (st:St) (v:AV):Out :=
 match v.asB with
 | some true=>x t st
 | some false=>y t st
 | none=>.no
def loopC (body:Tr AV→St→Out) (n:Nat):Tr AV→St→Out :=
 @Nat.rec (fun _=>Tr AV→St→Out) (fun _ _=>.no) (fun _ k t st=>thenC (body t st) k) n
def rangeEnd (t:Tr AV) (st:St) (l:Nat):Option Row→Out
 | some (.lp _ _ _ _ _)=>.nx t (st.drop l)
 | _=>.no
def rangeC (x:Ctx) (ps:Array Tmp) (a b:Code) (t:Tr AV) (st:St):AV→Out
 | .f (.func g) first captured =>
  match callF0 x.P x.S g (first++([.f (.yield st.next) [] []]++captured)) (st.new (.lp t x.nt ps.toList a b)) with
  | some (_,st')=>rangeEnd t st' st.next (st'.get st.next)
  | none=>.no
 | _=>.no
def tyVar1 (e:Nat) (t:Tr AV) (st:St):AV→Out
 | .p r _=>@Bool.rec (fun _=>Out) (.nx t st) (.nx t (st.new (.ty e r true))) (Nat.beq (r+1) st.next)
 | _=>.nx t st
def tyVar (e:Nat) (d:Tmp):Out→Out
 | .nx t st=>tyVar1 e t st (evO t (.tmp d))
 | o=>o
def regV (x:Ctx) (e:Nat) (d:Tmp) (r:Out):Out:=@Bool.rec (fun _=>Out) r (tyVar e d r) (selfPtr x.P e)
def regD (x:Ctx) (e:Nat) (r:Out):Option Tmp→Out
 | some d=>regV x e d r
 | none=>r
def reg1 (x:Ctx) (d:Option Tmp) (r:Out):Op→Out
 | .alloc e=>regD x e r d
 | _=>r
def regC (x:Ctx) (ops:Array Oper) (t:Tr AV) (st:St):Out:=match ops.toList with
 | [o]=>reg1 x o.dst (evOps x.P x.S x.nt ops ops.toList t st) o.op
 | l=>evOps x.P x.S x.nt ops l t st
def drawC (x:Ctx) (ops:Array Oper) (t:Tr AV) (st:St):Out:=drawP x.P x.S x.nt ops t st (plan ops)
def evC (c:Code):Ctx→Tr AV→St→Out :=
 @Code.rec (fun _=>Ctx→Tr AV→St→Out)
  (fun _ t st=>.nx t st)
  (fun _ ops d x t st=>@Bool.rec (fun _=>Out) (regC x ops t st) (drawC x ops t st) d)
  (fun _ _ ea eb x t st=>thenC (ea x t st) (eb x))
  (fun c _ _ ea eb x t st=>condC (ea x) (eb x) t st (evO t c))
  (fun id _ eb x t st=>blockC id (eb x t st))
  (fun _ eb x t st=>loopC (eb x) x.n t st)
  (fun f ps a b _ _ x t st=>cond x.inR .no (rangeC x ps a b t st (evO t f)))
  (fun id _ t st=>.ex id t st)
  (fun _ _ _ _ _=>.no)
  (fun _ _ t st=>.nx t st)
  (fun _ _ _ _=>.no)
  (fun _ t st=>.rt t st)
  (fun _ _ _ _=>.no) c
def resOne (P:Program) (t:Tr AV) (st:St):ResultVar→Option AV
 | .tmp x=>some (match t.get x with | some v=>v | none=>.un)
 | .cell a ty=>match t.get a with | some v=>loadAt P ty st v | none=>none
def resOf (P:Program) (l:List ResultVar) (t:Tr AV) (st:St):Res :=
 match pmapO (resOne P t st) l with
 | some [v]=>some (v,st)
 | some vs=>some (.tu vs,st)
 | none=>none
def tmpsOf:List AV→Nat→Tr AV→Tr AV
 | [],_,t=>t
 | v :: l,n,t=>tmpsOf l (n+1) (t.set n (some v))
def endF (P:Program) (l:List ResultVar):Out→Res
 | .nx t st=>resOf P l t st
 | .rt t st=>resOf P l t st
 | _=>none
def defOf (c:Call):Option Operand:=match c.callee,c.args.toList with
 | .value f,[]=>some f
 | _,_=>none
def defOp (o:Oper):Option Operand:=match o.op,o.guard with
 | .defer c,none=>defOf c
 | _,_=>none
def defIn:List Oper→Option (List Oper × Oper × Operand)
 | []=>none
 | o :: l=>match l with
  | []=>match defOp o with | some f=>some ([],o,f) | none=>none
  | _=>match defIn l with | some (h,d,f)=>some (o :: h,d,f) | none=>none
def defR:Code→Option (Array Oper × List Oper × Oper × Operand)
 | .region _ ops false=>match defIn ops.toList with | some (h,d,f)=>some (ops,h,d,f) | none=>none
 | _=>none
def defers:Nat→Code→Bool
 | n+1,.seq a b=>(defR a).isSome || defers n b
 | _,_=>false
def dcallR (t:Tr AV):Res→Out
 | some (_,st)=>.nx t st
 | none=>.no
def dcallB (S:Self) (st:St) (fn:Func) (f:FuncId) (as:List AV):Res :=
 match fn.body with
 | some _=>S.dcall f as st
 | none=>none
def dcall0 (P:Program) (S:Self) (f:FuncId) (as:List AV) (st:St):Res :=
 match P.funcs[f]? with
 | some fn=>dcallB S st fn f as
 | none=>none
def dcallF (x:Ctx) (t:Tr AV) (st:St):AV→Out
 | .f (.func g) first captured=>dcallR t (dcall0 x.P x.S g (first++captured) st)
 | _=>.no
def endD (x:Ctx) (v:AV):Out→Out
 | .nx t st=>dcallF x t st v
 | .rt t st=>dcallF x t st v
 | _=>.no
def runD (x:Ctx) (f:Operand) (k:Tr AV→St→Out) (t:Tr AV) (st:St):Option (Tr AV)→Out
 | some t'=>t'.seen fun t'=>endD x (evO t f) (k t' st)
 | none=>.no
def thenD (x:Ctx) (d:Oper) (f:Operand) (k:Tr AV→St→Out):Out→Out
 | .nx t st=>runD x f k t st (putT x.nt t d.dst .un)
 | _=>.no
def evTop (x:Ctx):Nat→Code→Tr AV→St→Out
 | n+1,.seq a b=>fun t st=>match defR a with
  | some (ops,h,d,f)=>thenD x d f (evC b x) (evOps x.P x.S x.nt ops h t st)
  | none=>thenC (evC a x t st) (evTop x n b)
 | _,c=>fun t st=>evC c x t st
def evCD (x:Ctx) (c:Code):Tr AV→St→Out:=@Bool.rec (fun _=>Tr AV→St→Out) (evC c x) (evTop x 4 c) (defers 4 c)
def evBody (P:Program) (S:Self) (n:Nat) (f:FuncId) (as:List AV) (st:St):Res :=
 match P.funcs[f]? with
 | none=>none
 | some fn=>match fn.body with
  | none=>none
  | some c=>(@Bool.rec (fun _=>_) none (endF P fn.results.toList (evCD ⟨P,S,false,fn.ntmps,n⟩ c (tmpsOf as 0 .lf) st)) (Nat.ble as.length fn.ntmps))
def self (P:Program) (n:Nat):Self :=
 @Nat.rec (fun _=>Self) ⟨fun _ _ _=>none,fun _ _ _ _=>.no,fun _ _ _=>none⟩ (fun n s=>⟨evBody P s n,fun nt c t st=>evC c ⟨P,s,true,nt,n⟩ t st,evBody P s n⟩) n
def evF (P:Program) (n:Nat):FuncId→List AV→St→Res:=(self P n).call
end
end Go.Ev
