/-
  The calls of the chapter's program, each by what it is known to do: the tower, and facts of types. · What the checker's small functions answer: named, names, Index, Contains, has. · What rank, Arity and Strict answer: by closed runs; of any name, Arity and Strict give a number.
-/
import Derived.Test.YtbemeikjepjhoaaGreatDoorS28
import Derived.Test.YtbemeikjepjhoaaGreatDoorS31
import Derived.Test.YtbemeikjepjhoaaGreatDoorS30
import Derived.KernelRfl
namespace Go.Proofs.YtbemeikjepjhoaaGreatDoor
open Go.Ev
set_option maxRecDepth 100000
noncomputable section
theorem inf2:hasInfo Tryz.prog 2=true:=by kernel_rfl
theorem ag2:isAg Tryz.prog 2=false:=by kernel_rfl
theorem inf3:hasInfo Tryz.prog 3=true:=by kernel_rfl
theorem ag3:isAg Tryz.prog 3=false:=by kernel_rfl
theorem sz3:szOf Tryz.prog 3=1:=by kernel_rfl
theorem inf4:hasInfo Tryz.prog 4=true:=by kernel_rfl
theorem sz4:szOf Tryz.prog 4=1:=by kernel_rfl
theorem inf5:hasInfo Tryz.prog 5=true:=by kernel_rfl
theorem sz5:szOf Tryz.prog 5=1:=by kernel_rfl
theorem inf9:hasInfo Tryz.prog 9=true:=by kernel_rfl
theorem ag9:isAg Tryz.prog 9=false:=by kernel_rfl
theorem sz9:szOf Tryz.prog 9=1:=by kernel_rfl
theorem inf22:hasInfo Tryz.prog 22=true:=by kernel_rfl
theorem ag22:isAg Tryz.prog 22=false:=by kernel_rfl
theorem inf23:hasInfo Tryz.prog 23=true:=by kernel_rfl
theorem ag23:isAg Tryz.prog 23=false:=by kernel_rfl
theorem sz23:szOf Tryz.prog 23=1:=by kernel_rfl
theorem inf28:hasInfo Tryz.prog 28=true:=by kernel_rfl
theorem ag28:isAg Tryz.prog 28=false:=by kernel_rfl
theorem sz28:szOf Tryz.prog 28=1:=by kernel_rfl
theorem inf36:hasInfo Tryz.prog 36=true:=by kernel_rfl
theorem ag36:isAg Tryz.prog 36=false:=by kernel_rfl
theorem sz36:szOf Tryz.prog 36=1:=by kernel_rfl
theorem inf37:hasInfo Tryz.prog 37=true:=by kernel_rfl
theorem ag37:isAg Tryz.prog 37=false:=by kernel_rfl
theorem sz37:szOf Tryz.prog 37=1:=by kernel_rfl
theorem inf38:hasInfo Tryz.prog 38=true:=by kernel_rfl
theorem ag38:isAg Tryz.prog 38=false:=by kernel_rfl
theorem sz38:szOf Tryz.prog 38=1:=by kernel_rfl
theorem inf51:hasInfo Tryz.prog 51=true:=by kernel_rfl
theorem ag51:isAg Tryz.prog 51=false:=by kernel_rfl
theorem inf64:hasInfo Tryz.prog 64=true:=by kernel_rfl
theorem ag64:isAg Tryz.prog 64=false:=by kernel_rfl
theorem inf67:hasInfo Tryz.prog 67=true:=by kernel_rfl
theorem ag67:isAg Tryz.prog 67=false:=by kernel_rfl
theorem inf105:hasInfo Tryz.prog 105=true:=by kernel_rfl
theorem ag105:isAg Tryz.prog 105=false:=by kernel_rfl
theorem inf25:hasInfo Tryz.prog 25=true:=by kernel_rfl
theorem ag25:isAg Tryz.prog 25=true:=by kernel_rfl
theorem sz25:szOf Tryz.prog 25=2:=by kernel_rfl
theorem inf35:hasInfo Tryz.prog 35=true:=by kernel_rfl
theorem ag35:isAg Tryz.prog 35=true:=by kernel_rfl
theorem sz35:szOf Tryz.prog 35=4:=by kernel_rfl
theorem inf40:hasInfo Tryz.prog 40=true:=by kernel_rfl
theorem ag40:isAg Tryz.prog 40=true:=by kernel_rfl
theorem sz40:szOf Tryz.prog 40=7:=by kernel_rfl
theorem inf42:hasInfo Tryz.prog 42=true:=by kernel_rfl
theorem ag42:isAg Tryz.prog 42=true:=by kernel_rfl
theorem sz42:szOf Tryz.prog 42=8:=by kernel_rfl
theorem inf80:hasInfo Tryz.prog 80=true:=by kernel_rfl
theorem ag80:isAg Tryz.prog 80=true:=by kernel_rfl
theorem sz80:szOf Tryz.prog 80=11:=by kernel_rfl
theorem off25_0:fieldOff Tryz.prog 25 0=some 0:=by kernel_rfl
theorem off25_1:fieldOff Tryz.prog 25 1=some 1:=by kernel_rfl
theorem off35_0:fieldOff Tryz.prog 35 0=some 0:=by kernel_rfl
theorem off35_1:fieldOff Tryz.prog 35 1=some 1:=by kernel_rfl
theorem off35_2:fieldOff Tryz.prog 35 2=some 2:=by kernel_rfl
theorem off35_3:fieldOff Tryz.prog 35 3=some 3:=by kernel_rfl
theorem off40_0:fieldOff Tryz.prog 40 0=some 0:=by kernel_rfl
theorem off40_1:fieldOff Tryz.prog 40 1=some 1:=by kernel_rfl
theorem off40_2:fieldOff Tryz.prog 40 2=some 2:=by kernel_rfl
theorem off40_3:fieldOff Tryz.prog 40 3=some 3:=by kernel_rfl
theorem off40_4:fieldOff Tryz.prog 40 4=some 4:=by kernel_rfl
theorem off40_5:fieldOff Tryz.prog 40 5=some 5:=by kernel_rfl
theorem off40_6:fieldOff Tryz.prog 40 6=some 6:=by kernel_rfl
theorem off42_0:fieldOff Tryz.prog 42 0=some 0:=by kernel_rfl
theorem off42_1:fieldOff Tryz.prog 42 1=some 1:=by kernel_rfl
theorem off80_0:fieldOff Tryz.prog 80 0=some 0:=by kernel_rfl
theorem off80_1:fieldOff Tryz.prog 80 1=some 1:=by kernel_rfl
theorem off80_2:fieldOff Tryz.prog 80 2=some 2:=by kernel_rfl
theorem off80_3:fieldOff Tryz.prog 80 3=some 3:=by kernel_rfl
theorem off80_4:fieldOff Tryz.prog 80 4=some 4:=by kernel_rfl
theorem off66_0:fieldOff Tryz.prog 66 0=some 0:=by kernel_rfl
theorem off66_1:fieldOff Tryz.prog 66 1=some 1:=by kernel_rfl
theorem off69_0:fieldOff Tryz.prog 69 0=some 0:=by kernel_rfl
theorem off69_1:fieldOff Tryz.prog 69 1=some 1:=by kernel_rfl
theorem off90_0:fieldOff Tryz.prog 90 0=some 0:=by kernel_rfl
theorem off90_1:fieldOff Tryz.prog 90 1=some 1:=by kernel_rfl
theorem off53_0:fieldOff Tryz.prog 53 0=some 0:=by kernel_rfl
theorem off53_1:fieldOff Tryz.prog 53 1=some 1:=by kernel_rfl
theorem off118_0:fieldOff Tryz.prog 118 0=some 0:=by kernel_rfl
theorem off118_1:fieldOff Tryz.prog 118 1=some 1:=by kernel_rfl
theorem off118_2:fieldOff Tryz.prog 118 2=some 2:=by kernel_rfl
theorem sl22:SlTy Tryz.prog 22 35 4:=⟨Tryz.underlying22,inf35,sz35⟩
theorem sl23:SlTy Tryz.prog 23 42 8:=⟨Tryz.underlying23,inf42,sz42⟩
theorem sl36:SlTy Tryz.prog 36 9 1:=⟨Tryz.underlying36,inf9,sz9⟩
theorem sl37:SlTy Tryz.prog 37 40 7:=⟨Tryz.underlying37,inf40,sz40⟩
theorem sl38:SlTy Tryz.prog 38 80 11:=⟨Tryz.underlying38,inf80,sz80⟩
def zeroL35:List AV:=[.s [],.i .i64 0,.s [],.i .i64 0]
theorem zeroC35:zeroC Tryz.prog 35=some zeroL35:=by kernel_rfl
def zeroL42:List AV:=[.s [],.i .i64 0,.s [],.i .i64 0,.sn,.sn,.sn,.sn]
theorem zeroC42:zeroC Tryz.prog 42=some zeroL42:=by kernel_rfl
def zeroL9:List AV:=[.s []]
def zeroL40:List AV:=[.i .i64 0,.s [],.i .i64 0,.sn,.sn,.sn,.sn]
def zeroL80:List AV:=[.i .i64 0,.s [],.i .i64 0,.sn,.i .i64 0,.s [],.i .i64 0,.sn,.sn,.sn,.sn]
theorem zeroC80:zeroC Tryz.prog 80=some zeroL80:=by kernel_rfl
theorem gr22:GrTy Tryz.prog 22 35 4:=⟨sl22,by decide,⟨_,(by kernel_rfl:zeroC Tryz.prog 35=some (zeroL35)),rfl⟩,by decide,by kernel_rfl,by kernel_rfl,Nat.le_of_ble_eq_true (by kernel_rfl),Nat.le_of_ble_eq_true (by kernel_rfl)⟩
theorem gr23:GrTy Tryz.prog 23 42 8:=⟨sl23,by decide,⟨_,(by kernel_rfl:zeroC Tryz.prog 42=some (zeroL42)),rfl⟩,by decide,by kernel_rfl,by kernel_rfl,Nat.le_of_ble_eq_true (by kernel_rfl),Nat.le_of_ble_eq_true (by kernel_rfl)⟩
theorem gr36:GrTy Tryz.prog 36 9 1:=⟨sl36,by decide,⟨_,(by kernel_rfl:zeroC Tryz.prog 9=some (zeroL9)),rfl⟩,by decide,by kernel_rfl,by kernel_rfl,Nat.le_of_ble_eq_true (by kernel_rfl),Nat.le_of_ble_eq_true (by kernel_rfl)⟩
theorem gr37:GrTy Tryz.prog 37 40 7:=⟨sl37,by decide,⟨_,(by kernel_rfl:zeroC Tryz.prog 40=some (zeroL40)),rfl⟩,by decide,by kernel_rfl,by kernel_rfl,Nat.le_of_ble_eq_true (by kernel_rfl),Nat.le_of_ble_eq_true (by kernel_rfl)⟩
theorem gr38:GrTy Tryz.prog 38 80 11:=⟨sl38,by decide,⟨_,(by kernel_rfl:zeroC Tryz.prog 80=some (zeroL80)),rfl⟩,by decide,by kernel_rfl,by kernel_rfl,Nat.le_of_ble_eq_true (by kernel_rfl),Nat.le_of_ble_eq_true (by kernel_rfl)⟩
def G0 (f:FuncId):Bool:=[43,51,58,64].contains f
def G1 (f:FuncId):Bool:=[44,24,27,52,48,49,46,62,22,25,19,7,8,9,33,55,30,31,32].contains f
def G2 (f:FuncId):Bool:=[23,29,56].contains f
def G4 (f:FuncId):Bool:=f == 45
def G3 (f:FuncId):Bool:=[37,18,6].contains f
def S00:Self:=selfW Tryz.prog (fun S=>S) 200
def W1 (S:Self):Self:=withF itoaF (withF (copyF 57) S)
theorem w1_out {S:Self} {f:Nat} {xs:List AV} {st:St} (h1:f≠59) (h2:f≠57):(W1 S).call f xs st=S.call f xs st:=by
 unfold W1
 rw [withF_out (itoaF_out h1),withF_out (copyF_out h2)]
theorem w1_ok (S:Self) (hS:SelfOK Tryz.prog S):SelfOK Tryz.prog (W1 S) :=
 withF_ok itoaF_ok _ (withF_ok (copyF_ok fun b es c w h=>clone_calls b es c w h) _ hS)
def W0 (S:Self):Self:=byF G0 S00 (byV G1 (byZ G4 S00 (byZ G2 (W1 S) (frz G3 (W1 S)))))
def Wc (c:Option Self) (S:Self):Self:=match c with
 | none=>W0 S
 | some S7=>byF (fun f=>f == 7) S7 (W0 S)
def Tw (c:Option Self) (n:Nat):Self:=selfW Tryz.prog (Wc c) n
theorem s00_ok:SelfOK Tryz.prog S00:=selfW_ok (noNG_spec noGoroutines) mixedOrders (fun _ h=>h) 200
theorem w0_ok (S:Self) (hS:SelfOK Tryz.prog S):SelfOK Tryz.prog (W0 S):=byF_ok _ _ s00_ok (byV_ok _ (byZ_ok _ _ s00_ok (byZ_ok _ _ (w1_ok _ hS) (frz_ok _ (w1_ok _ hS)))))
theorem tw_ok {c:Option Self} (hc:∀ S,c=some S→SelfOK Tryz.prog S) (n:Nat):SelfOK Tryz.prog (Tw c n):=by
 refine selfW_ok (noNG_spec noGoroutines) mixedOrders (fun S hS=>?_) n
 cases c with
 | none=>exact w0_ok S hS
 | some S7=>exact byF_ok _ _ (hc S7 rfl) (w0_ok S hS)
section
variable {c : Option Self} {n f : Nat} {xs ys : List AV} {st : St} {fn : Func} {code : Code} {v : AV}
def bodyR (c:Option Self) (n:Nat) (fn:Func) (code:Code) (xs:List AV) (st:St):Option (AV × St) :=
 endF Tryz.prog fn.results.toList (evC code ⟨Tryz.prog,Tw c n,false,fn.ntmps,n⟩ (tmpsOf xs 0 .lf) st)
theorem tw_w0 (h7:c=none∨f≠7):(Tw c (n+1)).call f xs st=(W0 ⟨evBody Tryz.prog (Tw c n) n,fun nt c' t st=>evC c' ⟨Tryz.prog,Tw c n,true,nt,n⟩ t st,evBody Tryz.prog (Tw c n) n⟩).call f xs st:=by
 show (Wc c _).call f xs st=_
 cases c with
 | none=>rfl
 | some S7=>exact byF_out (beq_false_of_ne (h7.resolve_left (by simp)))
theorem body_out (h:(f == 7 || (f == 59 || (f == 57 || (G0 f || (G1 f || (G4 f || (G2 f || G3 f)))))))=false) (hf:Tryz.prog.funcs[f]? = some fn) (hb:fn.body=some code) (hn:xs.length≤fn.ntmps) (hd:defers 4 code=false:=by rfl) :
  (Tw c (n+1)).call f xs st=bodyR c n fn code xs st:=by
 simp only [Bool.or_eq_false_iff] at h
 rw [tw_w0 (.inr (ne_of_beq_false h.1))]
 show (byF G0 S00 (byF G1 _ _)).call f xs st=_
 rw [byF_out h.2.2.2.1,byF_out h.2.2.2.2.1,byZ_out h.2.2.2.2.2.1,byZ_out h.2.2.2.2.2.2.1,frz_out h.2.2.2.2.2.2.2,w1_out (ne_of_beq_false h.2.1) (ne_of_beq_false h.2.2.1)]
 exact body_at hf hb hn hd
theorem g1_not {f:FuncId} (h:G1 f=true):G2 f=false∧G3 f=false∧G4 f=false∧f≠59∧f≠57:=by
 unfold G1 at h
 rw [List.contains_iff_mem] at h
 simp only [List.mem_cons,List.not_mem_nil,or_false] at h
 rcases h with rfl | rfl | rfl | rfl | rfl | rfl | rfl | rfl | rfl | rfl | rfl | rfl | rfl | rfl | rfl | rfl | rfl | rfl | rfl <;> exact ⟨rfl,rfl,rfl,by decide,by decide⟩
theorem body_v {X:List Nat} (h0:G0 f=false) (h1:G1 f=true) (h7:c=none∨f≠7) (hx:RdsL X st xs ys) (hf:Tryz.prog.funcs[f]? = some fn) (hb:fn.body=some code) (hn:ys.length≤fn.ntmps) (hv:plainV v=true)
  (he:Ret (bodyR c n fn code ys st0) v) (hd:defers 4 code=false:=by rfl):(Tw c (n+1)).call f xs st=some (v,st):=by
 obtain ⟨s,he⟩:=he
 rw [tw_w0 h7]
 show (byF G0 S00 (byF G1 _ _)).call f xs st=_
 rw [byF_out h0]
 refine byF_in h1 hx (s1:=s) ?_ hv
 obtain ⟨g2,g3,g4,g5,g6⟩:=g1_not h1
 rw [byZ_out g4,byZ_out g2,frz_out g3,w1_out g5 g6]
 exact (body_at hf hb hn hd).trans he
def RetZ (o:Option (AV × St)) (v:AV):Prop:=∃ v1 s,o=some (v1,s)∧Fz 0 s v1 v
theorem body_z (h0:G0 f=false) (h1:G1 f=false) (h4:G4 f=false) (h2:G2 f=true) (h7:f≠7) (hx:pureL xs=true) (hf:Tryz.prog.funcs[f]? = some fn) (hb:fn.body=some code) (hn:xs.length≤fn.ntmps) (hv:pureV v=true)
  (he:RetZ (bodyR c n fn code xs st0) v) (hd:defers 4 code=false:=by rfl):(Tw c (n+1)).call f xs st=some (v,st):=by
 obtain ⟨v1,s,he,hz⟩:=he
 rw [tw_w0 (.inr h7)]
 show (byF G0 S00 (byF G1 _ _)).call f xs st=_
 rw [byF_out h0,byF_out h1,byZ_out h4]
 obtain ⟨g5,g6⟩:f≠59∧f≠57:=by
  unfold G2 at h2
  rw [List.contains_iff_mem] at h2
  simp only [List.mem_cons,List.not_mem_nil,or_false] at h2
  rcases h2 with rfl | rfl | rfl <;> exact ⟨by decide,by decide⟩
 exact byZ_in h2 hx ((w1_out g5 g6).trans ((body_at hf hb hn hd).trans he)) hz hv
theorem body_f {v1:AV} {s:St} (h0:G0 f=false) (h1:G1 f=false) (h4:G4 f=false) (h2:G2 f=false) (h3:G3 f=true) (h7:f≠7) (hf:Tryz.prog.funcs[f]? = some fn) (hb:fn.body=some code) (hn:xs.length≤fn.ntmps)
  (he:bodyR c n fn code xs st=some (v1,s)) (hz:Fz st.next s v1 v) (hd:defers 4 code=false:=by rfl):(Tw c (n+1)).call f xs st=some (v,s.shut st.next):=by
 rw [tw_w0 (.inr h7)]
 show (byF G0 S00 (byF G1 _ _)).call f xs st=_
 rw [byF_out h0,byF_out h1,byZ_out h4,byZ_out h2]
 obtain ⟨g5,g6⟩:f≠59∧f≠57:=by
  unfold G3 at h3
  rw [List.contains_iff_mem] at h3
  simp only [List.mem_cons,List.not_mem_nil,or_false] at h3
  rcases h3 with rfl | rfl | rfl <;> exact ⟨by decide,by decide⟩
 exact frz_in h3 ((w1_out g5 g6).trans ((body_at hf hb hn hd).trans he)) hz
theorem itoa_call {m:Nat} (h:Tabled st) (h2:m < 1000000):(Tw c (n+1)).call 59 [.i .i64 (m:Int)] st=some (.s (itoaL m),st):=by
 rw [tw_w0 (.inr (by decide))]
 show (byF G0 S00 (byF G1 _ _)).call 59 _ st=_
 rw [byF_out rfl,byF_out rfl,byZ_out rfl,byZ_out rfl,frz_out rfl]
 exact withF_in (itoaF_in h h2)
theorem copy_call {r k:Nat} {es:List (AV × AV × Nat)} (h:st.get r=some (.mp es k)):(Tw c (n+1)).call 57 [.m r] st=some (.m st.next,st.new (.mp es k)):=by
 rw [tw_w0 (.inr (by decide))]
 show (byF G0 S00 (byF G1 _ _)).call 57 _ st=_
 rw [byF_out rfl,byF_out rfl,byZ_out rfl,byZ_out rfl,frz_out rfl]
 show (withF _ _).call 57 _ st=_
 rw [withF_out (itoaF_out (by decide))]
 exact withF_in (copyF_in h)
theorem copy_nil (hf:Tryz.prog.funcs[57]? = some fn) (hb:fn.body=some code) (hn:xs.length≤fn.ntmps) (hx:xs=[.mn]) (hd:defers 4 code=false:=by rfl):(Tw c (n+1)).call 57 xs st=bodyR c n fn code xs st:=by
 rw [tw_w0 (.inr (by decide))]
 show (byF G0 S00 (byF G1 _ _)).call 57 _ st=_
 rw [byF_out rfl,byF_out rfl,byZ_out rfl,byZ_out rfl,frz_out rfl]
 show (withF _ _).call 57 _ st=_
 subst hx
 rw [withF_out (itoaF_out (by decide)),withF_out copyF_nil]
 exact body_at hf hb hn hd
end
end
end Go.Proofs.YtbemeikjepjhoaaGreatDoor
namespace Go.Proofs.YtbemeikjepjhoaaGreatDoor
open Go.Ev
set_option maxRecDepth 100000
noncomputable section
variable {c : Option Self} {st : St}
theorem str9:isStr Tryz.prog 9=true:=by kernel_rfl
def NmTo (s:Str) (i:Nat):Prop:=∀ j (h:j < s.length),j < i→33≤s[j]∧s[j]≤126
theorem named_of {s:Str} (h1:1≤s.length) (h2:s.length≤65536) (h:NmTo s s.length):named s=true:=by
 unfold named
 simp only [h1,h2,decide_true,Bool.true_and,List.all_eq_true]
 intro b hb
 obtain ⟨j,hj,rfl⟩:=List.getElem_of_mem hb
 have:=h j hj hj
 simp [this.1,this.2]
theorem named_not {s:Str} {i:Nat} (hi:i < s.length) (h:¬ (33≤s[i]∧s[i]≤126)):named s=false:=by
 rw [Bool.eq_false_iff]
 intro hn
 unfold named at hn
 simp only [Bool.and_eq_true,List.all_eq_true,decide_eq_true_eq] at hn
 exact h (hn.2.2 _ (List.getElem_mem hi))
theorem named_len {s:Str} (h:s.length < 1∨65536 < s.length):named s=false:=by
 rw [Bool.eq_false_iff]
 intro hn
 unfold named at hn
 simp only [Bool.and_eq_true,decide_eq_true_eq] at hn
 omega
theorem named_call (s:Str) {N:Nat} (hN:10000000000000000000≤N):(Tw c N).call 44 [.s s] st=some (.b (named s),st):=by
 obtain ⟨N,rfl⟩:∃ N',N=N'+1:=⟨N - 1,by omega⟩
 refine body_v (X:=[]) rfl rfl (.inr (by decide)) (.pure rfl) Tryz.func44 rfl (Nat.le_of_ble_eq_true rfl) rfl ?_
 unfold bodyR
 have ln:=fun st:St=>len_s (P:=Tryz.prog) (st:=st) Tryz.underlying9 s
 by_cases h1:s.length < 1
 ·have e1:(s.length:Int) < 1:=by omega
  rw [named_len (.inl h1)]
  simp [Tryz.f44,ln,e1,resOf_eq,pmapO]
 ·have e1:¬ (s.length:Int) < 1:=by omega
  by_cases h2:65536 < s.length
  ·have e2:(65536:Int) < (s.length:Int):=by omega
   rw [named_len (.inr h2)]
   simp [Tryz.f44,ln,e1,e2,resOf_eq,pmapO]
  ·have e2:¬ (65536:Int) < (s.length:Int):=by omega
   simp [Tryz.f44,ln,e1,e2,evC_loop]
   generalize hL:loopC _ _ _ _=L
   have lr:=loop_ret hL 0 s.length (fun i t _=>tget t 0 = .s s∧tget t 13 = .i .i64 (s.length:Int)∧tget t 14 = .i .i64 (i:Int)∧NmTo s i) (fun _ _=>NmTo s s.length) (fun t _=>tget t 2 = .b false∧named s=false) (by omega)
    ⟨by simp,by simp,by simp,fun j hj h=>by omega⟩
    (by
     rintro i t st hi ⟨i0,i13,i14,iN⟩
     clear hL
     have e3:(i:Int) < (s.length:Int):=by omega
     have e4:wr .i64 ((i:Int)+1)=((i+1:Nat):Int):=by rw [wr_in (by omega) (by omega)]; rfl
     have ix:=index_s (P:=Tryz.prog) str9 hi
     by_cases hb:(33≤s[i]∧s[i]≤126)
     ·left
      have e5:¬ (s[i]:Int) < 33:=by omega
      have e6:¬ (126:Int) < (s[i]:Int):=by omega
      simp [i0,i13,i14,e3,ix,e5,e6,e4]
      intro j hj hji
      by_cases hje:j=i
      ·subst hje; exact hb
      ·exact iN j hj (by omega)
     ·right
      have hn:=named_not hi hb
      by_cases h5:(s[i]:Int) < 33
      ·simp [i0,i13,i14,e3,ix,h5]
       exact hn
      ·have h6:(126:Int) < (s[i]:Int):=by omega
       simp [i0,i13,i14,e3,ix,h5,h6]
       exact hn)
    (by
     rintro t st ⟨i0,i13,i14,iN⟩
     clear hL
     simp [i13,i14]
     exact iN)
   clear hL
   rcases lr with ⟨t1,s1,rfl,hT⟩ | ⟨t1,s1,rfl,hT,hF⟩
   ·rw [named_of (by omega) (by omega) hT]
    simp [resOf_eq,pmapO]
   ·rw [hF]
    simp [hT,resOf_eq,pmapO]
theorem index_call (s:Str) {v:AV} {l:List Str} (hv:IsSl v (l.map .s)) (hl:l.length≤9223372036854775807) {N:Nat} (hN:10000000000000000000≤N) :
  ∃ n:Int,(Tw c N).call 52 [v,.s s] st=some (.i .i64 n,st)∧(0≤n↔s ∈ l):=by
 obtain ⟨N,rfl⟩:∃ N',N=N'+1:=⟨N - 1,by omega⟩
 have hp:pureL [v,.s s]=true:=by simp [pureL,pureV,hv.pure (pure_strs l)]
 suffices h:∃ n:Int,Ret (bodyR c N Tryz.f52 (Tryz.f52.body.getD .skip) [v,.s s] st0) (.i .i64 n)∧(0≤n↔s ∈ l) by
  obtain ⟨n,h1,h2⟩:=h
  exact ⟨n,body_v (X:=[]) rfl rfl (.inr (by decide)) (.pure hp) Tryz.func52 rfl (Nat.le_of_ble_eq_true rfl) rfl h1,h2⟩
 unfold bodyR
 have ln:=fun st:St=>hv.sLen (st:=st) sl36
 simp [Tryz.f52,ln,evC_loop]
 generalize hL:loopC _ _ _ _=L
 have lr:=loop_ret hL 0 l.length (fun i t _=>tget t 0=v∧tget t 1 = .s s∧tget t 7 = .i .i64 (l.length:Int)∧tget t 8 = .i .i64 (i:Int)∧s ∉ l.take i) (fun _ _=>s ∉ l) (fun t _=>∃ n:Nat,tget t 4 = .i .i64 (n:Int)∧s ∈ l) (by omega)
  ⟨by simp,by simp,by simp,by simp,by simp⟩
  (by
   rintro i t st hi ⟨i0,i1,i7,i8,iN⟩
   clear hL
   have e3:(i:Int) < (l.length:Int):=by omega
   have e4:wr .i64 ((i:Int)+1)=((i+1:Nat):Int):=by rw [wr_in (by omega) (by omega)]; rfl
   obtain ⟨a,ix,ld⟩:=hv.sat sl36 ag9 hi
   by_cases hb:s=l[i]
   ·right
    simp [i0,i1,i7,i8,e3,ix,ld,str_eq,hb]
    exact ⟨i,rfl⟩
   ·left
    simp [i0,i1,i7,i8,e3,ix,ld,str_eq,hb,e4]
    rw [← List.take_append_getElem hi,List.mem_append,not_or]
    exact ⟨iN,by simpa using hb⟩)
  (by
   rintro t st ⟨i0,i1,i7,i8,iN⟩
   clear hL
   simp [i7,i8]
   simpa using iN)
 clear hL
 rcases lr with ⟨t1,s1,rfl,hT⟩ | ⟨t1,s1,rfl,n,hT,hF⟩
 ·exact ⟨-1,by simp [resOf_eq,pmapO],by simp [hT]⟩
 ·exact ⟨n,by simp [hT,resOf_eq,pmapO],by simp [hF]⟩
theorem contains_call (s:Str) {v:AV} {l:List Str} (hv:IsSl v (l.map .s)) (hl:l.length≤9223372036854775807) {N:Nat} (hN:10000000000000000001≤N) :
  (Tw c N).call 27 [v,.s s] st=some (.b (decide (s ∈ l)),st):=by
 obtain ⟨N,rfl⟩:∃ N',N=N'+1:=⟨N - 1,by omega⟩
 have hp:pureL [v,.s s]=true:=by simp [pureL,pureV,hv.pure (pure_strs l)]
 refine body_v (X:=[]) rfl rfl (.inr (by decide)) (.pure hp) Tryz.func27 rfl (Nat.le_of_ble_eq_true rfl) rfl ?_
 unfold bodyR
 obtain ⟨n,h1,h2⟩:=index_call (c:=c) (st:=st0) s hv hl (N:=N) (by omega)
 simp [Tryz.f27,callF_of Tryz.func52 rfl,h1,resOf_eq,pmapO,h2]
theorem mp51:MpTy Tryz.prog 51 4 (.b false):=⟨⟨9,Tryz.underlying51,Tryz.underlying9⟩,by kernel_rfl⟩
def seenF (l:List Str):Str→Option AV:=fun x=>if x ∈ l then some (.b true) else none
theorem seen_upd (l:List Str) (s:Str):upd (seenF l) s (.b true)=seenF (l++[s]):=by
 funext x
 unfold upd seenF
 by_cases h:x=s
 ·simp [h]
 ·simp [h]
theorem seen_get (l:List Str) (s:Str):(seenF l s).getD (.b false) = .b (decide (s ∈ l)):=by
 unfold seenF
 by_cases h:s ∈ l <;> simp [h]
theorem names_take {l:List Str} {i:Nat} (hi:i < l.length) (h:namesOK (l.take i)=true) (h1:named l[i]=true) (h2:l[i] ∉ l.take i):namesOK (l.take (i+1))=true:=by
 rw [← List.take_append_getElem hi]
 unfold namesOK at *
 simp only [Bool.and_eq_true,List.all_eq_true,decide_eq_true_eq] at *
 refine ⟨fun x hx=>?_,?_⟩
 ·rcases List.mem_append.1 hx with hx | hx
  ·exact h.1 x hx
  ·rw [List.mem_singleton.1 hx]; exact h1
 ·rw [List.nodup_append]
  refine ⟨h.2,by simp,fun a ha b hb=>?_⟩
  rw [List.mem_singleton.1 hb]
  rintro rfl; exact h2 ha
theorem names_bad1 {l:List Str} {i:Nat} (hi:i < l.length) (h1:named l[i]=false):namesOK l=false:=by
 rw [Bool.eq_false_iff]
 intro h
 unfold namesOK at h
 simp only [Bool.and_eq_true,List.all_eq_true] at h
 have:=h.1 _ (List.getElem_mem hi)
 rw [h1] at this; cases this
theorem names_bad2 {l:List Str} {i:Nat} (hi:i < l.length) (h1:l[i] ∈ l.take i):namesOK l=false:=by
 rw [Bool.eq_false_iff]
 intro h
 unfold namesOK at h
 simp only [Bool.and_eq_true,decide_eq_true_eq] at h
 have h2:=h.2
 rw [← List.take_append_drop i l,List.nodup_append] at h2
 refine h2.2.2 _ h1 l[i] ?_ rfl
 rw [List.drop_eq_getElem_cons hi]; exact List.mem_cons_self ..
theorem names_call {v:AV} {l:List Str} (hv:IsSl v (l.map .s)) (hl:l.length≤9223372036854775807) {N:Nat} (hN:10000000000000000001≤N) :
  (Tw c N).call 24 [v] st=some (.b (namesOK l),st):=by
 obtain ⟨N,rfl⟩:∃ N',N=N'+1:=⟨N - 1,by omega⟩
 have hp:pureL [v]=true:=by simp [pureL,hv.pure (pure_strs l)]
 refine body_v (X:=[]) rfl rfl (.inr (by decide)) (.pure hp) Tryz.func24 rfl (Nat.le_of_ble_eq_true rfl) rfl ?_
 unfold bodyR
 have ln:=fun st:St=>hv.sLen (st:=st) sl36
 simp [Tryz.f24,ln,evC_loop]
 have hm:=MpF.new st0
 obtain ⟨r,hr⟩:∃ r,st0.next=r:=⟨_,rfl⟩
 obtain ⟨s0,hs0⟩:∃ s,st0.new (.mp [] 0)=s:=⟨_,rfl⟩
 rw [hr,hs0] at hm
 rw [hr,hs0]
 generalize hL:loopC _ _ _ _=L
 have lr:=loop_ret hL 0 l.length (fun i t s=>tget t 3 = .m r∧tget t 7=v∧tget t 8 = .i .i64 (l.length:Int)∧tget t 9 = .i .i64 (i:Int)∧MpF s r (seenF (l.take i))∧namesOK (l.take i)=true)
  (fun _ _=>namesOK l=true) (fun t _=>tget t 2 = .b false∧namesOK l=false) (by omega)
  ⟨by simp,by simp,by simp,by simp,hm,by simp [namesOK]⟩
  (by
   rintro i t s hi ⟨i3,i7,i8,i9,iM,iN⟩
   clear hL
   have e3:(i:Int) < (l.length:Int):=by omega
   have e4:wr .i64 ((i:Int)+1)=((i+1:Nat):Int):=by rw [wr_in (by omega) (by omega)]; rfl
   obtain ⟨a,ix,ld⟩:=hv.sat sl36 ag9 hi
   have nm:=fun st:St=>named_call (c:=c) (st:=st) l[i] (N:=N) (by omega)
   have lk:=iM.get mp51 l[i]
   rw [seen_get] at lk
   obtain ⟨s',u1,u2,-,-⟩:=iM.set mp51 l[i] (.b true)
   cases hn:named l[i] with
   | false =>
    right
    simp [i7,i8,i9,e3,ix,ld,callF_of Tryz.func44 rfl,nm,hn]
    exact names_bad1 hi hn
   | true =>
    by_cases hs:l[i] ∈ l.take i
    ·right
     simp [i3,i7,i8,i9,e3,ix,ld,callF_of Tryz.func44 rfl,nm,hn,lk,hs]
     exact names_bad2 hi hs
    ·left
     simp [i3,i7,i8,i9,e3,e4,ix,ld,callF_of Tryz.func44 rfl,nm,hn,lk,hs,u1]
     rw [seen_upd,List.take_append_getElem hi] at u2
     exact ⟨_,_,⟨rfl,rfl⟩,by simp [i3],by simp [i7],by simp [i8],by simp,u2,names_take hi iN hn hs⟩)
  (by
   rintro t s ⟨i3,i7,i8,i9,iM,iN⟩
   clear hL
   simp [i8,i9]
   simpa using iN)
 clear hL
 rcases lr with ⟨t1,s1,rfl,hT⟩ | ⟨t1,s1,rfl,hT,hF⟩
 ·rw [hT]; simp [resOf_eq,pmapO]
 ·rw [hF]; simp [hT,resOf_eq,pmapO]
end
end Go.Proofs.YtbemeikjepjhoaaGreatDoor
namespace Go.Proofs.YtbemeikjepjhoaaGreatDoor
open Go.Ev
set_option maxRecDepth 100000
noncomputable section
variable {c : Option Self} {st : St}
def S199:Self:=selfW Tryz.prog (fun S=>S) 199
def tabR:Option (AV × St):=(S199).call 68 [] st0
def keysS:List (AV × AV)→Bool
 | []=>true
 | (.s x,_) :: es=>es.all (fun e=>match e.1 with | .s y=>!leq x y | _=>false) && keysS es
 | _=>false
def entryOK:AV→Bool
 | .ag [s,f]=>(lenOf s).isSome && (!isText s && (isSc s && isSc f))
 | _=>false
def tabRow:Option Row→Bool
 | some (.mu es)=>keysS es && es.all (fun e=>entryOK e.2)
 | _=>false
def tabOK:Option (AV × St)→Bool
 | some (.m r,s)=>tabRow (s.get r)
 | _=>false
theorem tab_ok:tabOK tabR=true:=by kernel_rfl
def s1c (s:St):St:=(s.newCe [.sn,.fn0]).setCe s.next [.sn,.fn0] s.next
def othR:Option (AV × St):=match tabR with | some (_,s)=>(S199).call 69 [] (s1c s) | none=>none
def keysM:List (AV × AV × Nat)→Bool
 | []=>true
 | (.s _,.i .i64 _,_) :: es=>keysM es
 | _=>false
def othRow:Option Row→Bool
 | some (.mp es _)=>keysM es
 | _=>false
def othOK:Option (AV × St)→Bool
 | some (.m r,s)=>othRow (s.get r)
 | _=>false
theorem oth_ok:othOK othR=true:=by kernel_rfl
theorem leq_iff:∀ {a b:List Nat},leq a b=true↔a=b
 | [],[]=>by simp [leq]
 | [],_ :: _=>by simp [leq]
 | _ :: _,[]=>by simp [leq]
 | a :: x,b :: y=>by
  have ih:=leq_iff (a:=x) (b:=y)
  simp only [leq,nbeq]
  by_cases h:a=b
  ·simp [h,ih]
  ·simp [h]
theorem findU_s {l:List Nat}:∀ {es:List (AV × AV)},keysS es=true→(∃ v,findU (.s l) es=some (some v)∧∃ k,(k,v) ∈ es)∨(findU (.s l) es=some none)
 | [],_=>.inr rfl
 | (.s x,v) :: es,h=>by
  simp only [keysS,Bool.and_eq_true] at h
  have ih:=findU_s (l:=l) h.2
  have he:eqS (.s l) (.s x)=some (leq l x):=rfl
  by_cases hx:leq l x=true
  ·have hx':=leq_iff.1 hx
   subst hx'
   have hnone:∀ {fs:List (AV × AV)},fs.all (fun e=>match e.1 with | .s y=>!leq l y | _=>false)=true→findU (.s l) fs=some none:=by
    intro fs
    induction fs with
    | nil=>intro _; rfl
    | cons f fs ihf =>
     intro hall
     rw [List.all_cons,Bool.and_eq_true] at hall
     obtain ⟨kf,vf⟩:=f
     cases kf <;> first | (simp at hall; done) | skip
     rename_i y
     have h1:leq l y=false:=by simpa using hall.1
     have e1:eqS (.s l) (.s y)=some (leq l y):=rfl
     simp only [findU,e1,h1]
     exact ihf hall.2
   left
   refine ⟨v,?_,.s l,List.mem_cons_self ..⟩
   simp only [findU,he,hx,hnone h.1]
  ·have hx':leq l x=false:=by simpa using hx
   rcases ih with ⟨u,h1,k,h2⟩ | h1
   ·left
    refine ⟨u,?_,k,List.mem_cons_of_mem _ h2⟩
    simp only [findU,he,hx',h1]
   ·right
    simp only [findU,he,hx',h1]
theorem find_s {l:List Nat}:∀ {es:List (AV × AV × Nat)} {n:Nat},keysM es=true→(∃ i v,find (.s l) es n=some (some (i,.i .i64 v)))∨find (.s l) es n=some none
 | [],n,_=>.inr rfl
 | (.s x,.i .i64 v,c) :: es,n,h=>by
  simp only [keysM] at h
  have he:eqS (.s l) (.s x)=some (leq l x):=rfl
  by_cases hx:leq l x=true
  ·left; exact ⟨n,v,by simp only [find,he,hx]⟩
  ·have hx':leq l x=false:=by simpa using hx
   rcases find_s (l:=l) (n:=n+1) h with ⟨i,u,h1⟩ | h1
   ·left; exact ⟨i,u,by simp only [find,he,hx',h1]⟩
   ·right; simp only [find,he,hx',h1]
theorem zero123:zeroC Tryz.prog 123=some [.sn,.fn0]:=by kernel_rfl
theorem zeroOf123:zeroOf Tryz.prog 123=some (.ag [.sn,.fn0]):=by kernel_rfl
theorem zeroOf3:zeroOf Tryz.prog 3=some (.i .i64 0):=by kernel_rfl
theorem inf123:hasInfo Tryz.prog 123=true:=by kernel_rfl
theorem sz123:szOf Tryz.prog 123=2:=by kernel_rfl
theorem off123_0:fieldOff Tryz.prog 123 0=some 0:=by kernel_rfl
theorem inf120:hasInfo Tryz.prog 120=true:=by kernel_rfl
theorem ag120:isAg Tryz.prog 120=false:=by kernel_rfl
theorem fits125 (l:List Nat):keyFits Tryz.prog 125 (.s l)=true:=by kernel_rfl
theorem fits115 (l:List Nat):keyFits Tryz.prog 115 (.s l)=true:=by kernel_rfl
theorem lookup125 {s:St} {r:Nat} {es:List (AV × AV)} {l:List Nat} (h:s.get r=some (.mu es)):lookup Tryz.prog 125 s (.m r) (.s l) true=match findU (.s l) es with | some (some v)=>some (.tu [v,.b true]) | some none=>some (.tu [.ag [.sn,.fn0],.b false]) | none=>none:=by
 unfold lookup
 simp only [Tryz.underlying125,zeroOf123,h,fits125]
 rcases findU (.s l) es with _ | _ | v <;> rfl
theorem lookup115 {s:St} {r c:Nat} {es:List (AV × AV × Nat)} {l:List Nat} (h:s.get r=some (.mp es c)):lookup Tryz.prog 115 s (.m r) (.s l) true=match find (.s l) es 0 with | some (some (_,v))=>some (.tu [v,.b true]) | some none=>some (.tu [.i .i64 0,.b false]) | none=>none:=by
 unfold lookup
 simp only [Tryz.underlying115,zeroOf3,h,fits115]
 rcases find (.s l) es 0 with _ | _ | ⟨i,v⟩ <;> rfl
theorem lenOf_sl {P:Program} {st:St} {v:AV} (h1:(lenOf v).isSome=true) (h2:isText v=false) {ty e:TypeId} (h:P.underlying ty=some (.slice e)):∃ n:Nat,bLen P st [ty] [v]=some (.i .i64 (n:Int),st):=by
 obtain ⟨n,hn⟩:=Option.isSome_iff_exists.1 h1
 exact ⟨n,len_sl h hn h2⟩
@[simp] theorem asSc_fn0:isSc .fn0=true:=rfl
theorem strict_run (l:List Nat):∃ n st',evBody Tryz.prog (S199) 199 58 [.s l] st0=some (.i .i64 n,st'):=by
 have h1:=tab_ok
 unfold tabOK at h1
 split at h1 <;> first | (cases h1; done) | skip
 rename_i r s htab
 unfold tabRow at h1
 split at h1 <;> first | (cases h1; done) | skip
 rename_i es hrow
 rw [Bool.and_eq_true] at h1
 obtain ⟨hk,hall⟩:=h1
 have hT:(S199).call 68 [] st0=some (.m r,s):=htab
 rw [body_at Tryz.func58 rfl (Nat.le_of_ble_eq_true rfl)]
 rcases findU_s (l:=l) hk with ⟨v,hv,k,hkv⟩ | hv
 ·have hev:=List.all_eq_true.1 hall _ hkv
  unfold entryOK at hev
  split at hev <;> first | (cases hev; done) | skip
  rename_i sv fv heq
  have hvv:v = .ag [sv,fv]:=heq
  subst hvv
  simp only [Bool.and_eq_true,Bool.not_eq_true'] at hev
  obtain ⟨e1,e2,e3,e4⟩:=hev
  have hlk:=lookup125 (l:=l) hrow
  rw [hv] at hlk
  obtain ⟨s2,w1,w2,-,-⟩:=alloc_store (s:=s) (z:=[.sn,.fn0]) (cells:=[sv,fv]) rfl (by simp [e3,e4])
  obtain ⟨n,hn⟩:=lenOf_sl (st:=s2) e1 e2 Tryz.underlying120
  refine ⟨n,s2,?_⟩
  simp [Tryz.f58,callF_of Tryz.func68 rfl,hT,hlk,opH_alloc,zero123,store_ag inf123 sz123,w1,off123_0,load_p inf120 ag120,rd_of w2,hn,resOf_eq,pmapO]
 ·have hlk:=lookup125 (l:=l) hrow
  rw [hv] at hlk
  have hw:=wt_of (newCe_ce (st:=s) [.sn,.fn0]) 0 [.sn,.fn0] (by simp) (by simp)
  have hs1:(s.newCe [.sn,.fn0]).setCe s.next (ovr [.sn,.fn0] 0 [.sn,.fn0]) s.next=s1c s:=rfl
  rw [hs1] at hw
  have h2:=oth_ok
  unfold othOK othR at h2
  have htab':tabR=some (.m r,s):=htab
  rw [htab'] at h2
  simp only at h2
  split at h2 <;> first | (cases h2; done) | skip
  rename_i r2 s2 hoth
  unfold othRow at h2
  split at h2 <;> first | (cases h2; done) | skip
  rename_i es2 c2 hrow2
  have hl2:=lookup115 (l:=l) hrow2
  rcases find_s (l:=l) (n:=0) h2 with ⟨i,n,hf⟩ | hf
  ·rw [hf] at hl2
   refine ⟨n,s2,?_⟩
   simp [Tryz.f58,callF_of Tryz.func68 rfl,callF_of Tryz.func69 rfl,hT,hlk,opH_alloc,zero123,store_ag inf123 sz123,hw,hoth,hl2,resOf_eq,pmapO]
  ·rw [hf] at hl2
   refine ⟨-1,s2,?_⟩
   simp [Tryz.f58,callF_of Tryz.func68 rfl,callF_of Tryz.func69 rfl,hT,hlk,opH_alloc,zero123,store_ag inf123 sz123,hw,hoth,hl2,resOf_eq,pmapO]
def resV:Option (AV × St)→Option AV
 | some (v,_)=>some v
 | none=>none
theorem resV_some {o:Option (AV × St)} {v:AV} (h:resV o=some v):∃ s,o=some (v,s):=by
 cases o with
 | none=>cases h
 | some p=>cases h; exact ⟨_,rfl⟩
theorem rank_0:resV (S00.call 43 [.i .i64 0] st0)=some (.i .i64 0):=by kernel_rfl
theorem rank_8:resV (S00.call 43 [.i .i64 8] st0)=some (.i .i64 1):=by kernel_rfl
theorem rank_9:resV (S00.call 43 [.i .i64 9] st0)=some (.i .i64 2):=by kernel_rfl
theorem rank_2:resV (S00.call 43 [.i .i64 2] st0)=some (.i .i64 3):=by kernel_rfl
theorem body_s00 {f:Nat} {xs ys:List AV} {v:AV} {X:List Nat} {N:Nat} (h0:G0 f=true) (h7:f≠7) (hx:RdsL X st xs ys) (h:resV (S00.call f ys st0)=some v) (hv:plainV v=true) (hN:1≤N):(Tw c N).call f xs st=some (v,st):=by
 obtain ⟨N,rfl⟩:∃ N',N=N'+1:=⟨N - 1,by omega⟩
 obtain ⟨s,h⟩:=resV_some h
 rw [tw_w0 (.inr h7)]
 exact byF_in h0 hx h hv
def rankK (e:Int):Int:=if e=0 then 0 else if e=8 then 1 else if e=9 then 2 else 3
def IsErr (e:Int):Prop:=e=0∨e=8∨e=9∨e=2
theorem rank_call {e:Int} (he:IsErr e) {N:Nat} (hN:1≤N):(Tw c N).call 43 [.i .i64 e] st=some (.i .i64 (rankK e),st):=by
 rcases he with rfl | rfl | rfl | rfl
 ·exact body_s00 (X:=[]) rfl (by decide) (.pure rfl) rank_0 rfl hN
 ·exact body_s00 (X:=[]) rfl (by decide) (.pure rfl) rank_8 rfl hN
 ·exact body_s00 (X:=[]) rfl (by decide) (.pure rfl) rank_9 rfl hN
 ·exact body_s00 (X:=[]) rfl (by decide) (.pure rfl) rank_2 rfl hN
def priR:Option (AV × St):=S199.call 66 [] st0
theorem pri_ok:othOK priR=true:=by kernel_rfl
theorem arity_run (l:List Nat):∃ n st',S00.call 51 [.s l] st0=some (.i .i64 n,st'):=by
 show ∃ n st',evBody Tryz.prog S199 199 51 [.s l] st0=some (.i .i64 n,st')
 have h2:=pri_ok
 unfold othOK priR at h2
 split at h2 <;> first | (cases h2; done) | skip
 rename_i r2 s2 hoth
 unfold othRow at h2
 split at h2 <;> first | (cases h2; done) | skip
 rename_i es2 c2 hrow2
 have hl2:=lookup115 (l:=l) hrow2
 rw [body_at Tryz.func51 rfl (Nat.le_of_ble_eq_true rfl)]
 rcases find_s (l:=l) (n:=0) h2 with ⟨i,n,hf⟩ | hf
 ·rw [hf] at hl2
  refine ⟨n,s2,?_⟩
  simp [Tryz.f51,callF_of Tryz.func66 rfl,hoth,hl2,resOf_eq,pmapO]
 ·rw [hf] at hl2
  refine ⟨-1,s2,?_⟩
  simp [Tryz.f51,callF_of Tryz.func66 rfl,hoth,hl2,resOf_eq,pmapO]
def arF (l:Str):Int:=(arity_run l).choose
def strF (l:Str):Int:=(strict_run l).choose
theorem arity_call (l:Str) {N:Nat} (hN:1≤N):(Tw c N).call 51 [.s l] st=some (.i .i64 (arF l),st):=by
 obtain ⟨s,h⟩:=(arity_run l).choose_spec
 exact body_s00 (X:=[]) rfl (by decide) (.pure rfl) (by rw [h]; rfl) rfl hN
theorem strict58_call (l:Str) {N:Nat} (hN:1≤N):(Tw c N).call 58 [.s l] st=some (.i .i64 (strF l),st):=by
 obtain ⟨s,h⟩:=(strict_run l).choose_spec
 exact body_s00 (X:=[]) rfl (by decide) (.pure rfl) (by rw [show S00.call 58 [.s l] st0=_ from h]; rfl) rfl hN
def only1B (f:Str) (x:Nat):Bool:=match resV (S00.call 64 [.s [x],.rp [.s f]] st0) with
 | some (.b y)=>y == f.contains x
 | _=>false
def onlyFs:List Str:=[[110],[105],[110,97],[112,97],[97],[98,97],[97,99]]
theorem only1_all:(onlyFs.all fun f=>[110,105,112,98,97,99].all fun x=>only1B f x)=true:=by kernel_rfl
theorem only1_call {f:Str} (hf:f ∈ onlyFs) {x:Nat} (hx:x ∈ [110,105,112,98,97,99]) {r:AV} {X:List Nat} (hr:Rds X st r (.rp [.s f])) {N:Nat} (hN:1≤N):(Tw c N).call 64 [.s [x],r] st=some (.b (f.contains x),st):=by
 have h:=List.all_eq_true.1 (List.all_eq_true.1 only1_all f hf) x hx
 unfold only1B at h
 split at h
 ·rename_i y hy
  have:y=f.contains x:=by simpa using h
  subst this
  exact body_s00 (X:=X) rfl (by decide) (.cons (.pure rfl) (.cons hr .nil)) hy rfl hN
 ·cases h
end
end Go.Proofs.YtbemeikjepjhoaaGreatDoor
