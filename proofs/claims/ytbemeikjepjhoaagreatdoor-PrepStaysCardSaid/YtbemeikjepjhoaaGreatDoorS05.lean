/-
  Rows given up and taken back, blocks that no row has: good steps. · Each operation does in the model's memory what it does in the abstract state: those that call nothing.
-/
import Derived.Test.YtbemeikjepjhoaaGreatDoorS04
import Derived.Laws.Cells
namespace Go.Ev
noncomputable section
section
variable {E : Env} {H : Array Obj} {st : St}
theorem St.get_drop (st:St) (r x:Nat):(st.drop r).get x=if x=r then none else st.get x:=by simp [St.drop,St.get,Tr.get_set]
theorem St.get_put (st:St) (r:Nat) (row:Row) (x:Nat):(st.put r row).get x=if x=r then some row else st.get x:=by simp [St.put,St.get,Tr.get_set]
theorem drop_alive {r x:Nat} {row:Row} (h:(st.drop r).alive x=some row):x≠r∧st.alive x=some row:=by
 have hx:x≠r:=by
  rintro rfl
  have:=Rel.alive_get h
  rw [St.get_drop,if_pos rfl] at this; cases this
 refine ⟨hx,?_⟩
 unfold St.alive at h ⊢
 rw [St.get_drop,if_neg hx] at h
 exact h
theorem Step.drop (h:Rel E H st) (r:Nat):Step E E H H st (st.drop r):=by
 refine ⟨.refl E,fun _ _ _ h=>h,rfl,⟨h.imm,h.fresh,?_,h.freshG,h.liveLt,?_,?_,?_,?_,fun x t r0 q hx=>by
  rw [St.get_drop] at hx
  split at hx
  ·cases hx
  ·exact h.tys x t r0 q hx⟩,Nat.le_refl _,fun _ _ _=>rfl,?_⟩
 ·intro x hx
  rw [St.get_drop]
  split
  ·rfl
  ·exact h.freshRow x hx
 ·intro x row hx; exact h.rows x row (drop_alive hx).2
 ·intro x row B hx hB; exact h.own x row B (drop_alive hx).2 hB
 ·intro x y row row' B B' hx hy hB hB' hb; exact h.sep x y row row' B B' (drop_alive hx).2 (drop_alive hy).2 hB hB' hb
 ·intro g al hg
  refine (h.ends g al hg).imp ?_
  intro x y hxy lx ly Bx By h1 h2
  rw [St.get_drop] at h1 h2
  split at h1
  ·cases h1
  ·split at h2
   ·cases h2
   ·exact hxy lx ly Bx By h1 h2
 ·rintro b ⟨x,row,B,hx,hB,rfl⟩
  exact .inr ⟨x,row,B,(drop_alive hx).2,hB,rfl⟩
theorem Step.other (h:Rel E H st) (o:Obj):Step E E H (H.push o) st st:=by
 have hold:∀ b,b < H.size→(H.push o)[b]? = H[b]?:=fun b hb=>by simp [Array.getElem?_push,Nat.ne_of_lt hb]
 refine ⟨.refl E,fun _ _ _ h=>h,rfl,⟨?_,h.fresh,h.freshRow,h.freshG,h.liveLt,?_,h.own,h.sep,h.ends,fun x t r0 q hx=>(h.tys x t r0 q hx).mono (.refl E) (TyKeep.push H o)⟩,by simp,fun b hb _=>hold b hb,fun _ h=>.inr h⟩
 ·intro b o' hb; rw [hold b (h.imm_lt hb)]; exact h.imm b o' hb
 ·intro r row hr
  obtain ⟨B,hB,hR⟩:=h.rows r row hr
  exact ⟨B,hB,hR.mono (.refl E) (hold _ hR.lt)⟩
theorem Step.poke {E':Env} {H':Array Obj} {st':St} (h:Step E E' H H' st st') {b:Nat} (hb:Owned E st b∨H.size≤b) (hn:Un E' st' b) (o:Obj) (hk:TyKeep H' (H'.setIfInBounds b o)):Step E E' H (H'.setIfInBounds b o) st st':=by
 have hold:∀ c,c≠b→(H'.setIfInBounds b o)[c]? = H'[c]?:=fun c hc=>by rw [Array.getElem?_setIfInBounds_ne (Ne.symm hc)]
 have hr:=h.rel
 refine ⟨h.le,h.imm,h.top,⟨?_,hr.fresh,hr.freshRow,hr.freshG,hr.liveLt,?_,hr.own,hr.sep,hr.ends,fun x t r0 q hx=>(hr.tys x t r0 q hx).mono (.refl E') hk⟩,by simpa using h.fr.size,?_,h.fr.own⟩
 ·intro c o' hc
  have:c≠b:=by rintro rfl; rw [hn.2] at hc; cases hc
  rw [hold c this]; exact hr.imm c o' hc
 ·intro r row hrow
  obtain ⟨B,hB,hR⟩:=hr.rows r row hrow
  refine ⟨B,hB,hR.mono (.refl E') (hold _ ?_)⟩
  rintro rfl; exact hn.1 ⟨r,row,B,hrow,hB,rfl⟩
 ·intro c hc ho
  have:c≠b:=by
   rintro rfl
   rcases hb with hb | hb
   ·exact ho hb
   ·omega
  rw [hold c this]; exact h.fr.keep c hc ho
theorem put_alive {r x:Nat} {row w:Row} (hce:∀ l g,row≠.ce l g) (h:(st.put r row).alive x=some w):(x=r∧w=row)∨(x≠r∧st.alive x=some w):=by
 by_cases e:x=r
 ·left
  have:=Rel.alive_get h
  rw [St.get_put,if_pos e] at this
  cases this; exact ⟨e,rfl⟩
 ·right
  refine ⟨e,?_⟩
  unfold St.alive at h ⊢
  rw [St.get_put,if_neg e] at h
  exact h
theorem Step.adopt {E':Env} {H':Array Obj} {st':St} (h:Step E E' H H' st st') {r:Nat} {row:Row} {B:Blk} (hce:∀ l g,row≠.ce l g) (hr:r < st'.next) (hB:E'.phi r=some B) (hrow:RowOK E' H' B row)
  (hb:Owned E st B.b∨H.size≤B.b) (hn:Un E' st' B.b):Step E E' H H' st (st'.put r row):=by
 have hh:=h.rel
 refine ⟨h.le,h.imm,h.top,⟨hh.imm,hh.fresh,?_,hh.freshG,hh.liveLt,?_,?_,?_,?_,fun x t r0 q hx=>by
  rw [St.get_put] at hx
  split at hx
  ·cases hx; exact (show False from hrow).elim
  ·exact hh.tys x t r0 q hx⟩,h.fr.size,h.fr.keep,?_⟩
 ·intro x hx
  have hx':st'.next≤x:=hx
  rw [St.get_put,if_neg (by omega)]; exact hh.freshRow x hx'
 ·intro x w hx
  rcases put_alive hce hx with ⟨rfl,rfl⟩ | ⟨_,hx⟩
  ·exact ⟨B,hB,hrow⟩
  ·exact hh.rows x w hx
 ·intro x w C hx hC
  rcases put_alive hce hx with ⟨rfl,rfl⟩ | ⟨_,hx⟩
  ·rw [hB] at hC; cases hC; exact hn.2
  ·exact hh.own x w C hx hC
 ·intro x y w w' C C' hx hy hC hC' hbb
  rcases put_alive hce hx with ⟨rfl,rfl⟩ | ⟨_,hx1⟩ <;> rcases put_alive hce hy with ⟨rfl,rfl⟩ | ⟨_,hy1⟩
  ·exact .inl rfl
  ·rw [hB] at hC; cases hC; exact absurd ⟨y,w',C',hy1,hC',hbb.symm⟩ hn.1
  ·rw [hB] at hC'; cases hC'; exact absurd ⟨x,w,C,hx1,hC,hbb⟩ hn.1
  ·exact hh.sep x y w w' C C' hx1 hy1 hC hC' hbb
 ·intro g al hg
  refine (hh.ends g al hg).imp ?_
  intro x y hxy lx ly Bx By h1 h2
  rw [St.get_put] at h1 h2
  split at h1
  ·exact absurd (Option.some.inj h1) (hce _ _)
  ·split at h2
   ·exact absurd (Option.some.inj h2) (hce _ _)
   ·exact hxy lx ly Bx By h1 h2
 ·rintro b ⟨x,w,C,hx,hC,rfl⟩
  rcases put_alive hce hx with ⟨rfl,rfl⟩ | ⟨_,hx⟩
  ·rw [hB] at hC; cases hC; exact hb.symm
  ·exact h.fr.own _ ⟨x,w,C,hx,hC,rfl⟩
theorem Step.unowned {E':Env} {H':Array Obj} {st':St} (h:Step E E' H H' st st') {b:Nat} (hb:b < H.size) (hn:¬ Owned E st b):¬ Owned E' st' b:=fun ho=>by
 rcases h.fr.own b ho with hh | hh
 ·omega
 ·exact hn hh
theorem Step.un {E':Env} {H':Array Obj} {st':St} (h:Step E E' H H' st st') {b:Nat} (hb:b < H.size) (hn:Un E st b):Un E' st' b:=⟨h.unowned hb hn.1,h.imm b hb hn.1 hn.2⟩
theorem Rel.un_fresh (h:Rel E H st) {b:Nat} (hb:H.size≤b) (hn:¬ Owned E st b):Un E st b:=⟨hn,by
 cases hi:E.imm b with
 | none=>rfl
 | some o=>have:=h.imm_lt hi; omega⟩
theorem drop_unowned (h:Rel E H st) {r:Nat} {row:Row} {B:Blk} (ha:st.alive r=some row) (hce:∀ l g,row≠.ce l g) (hB:E.phi r=some B):Un E (st.drop r) B.b:=by
 refine ⟨?_,h.own _ _ _ ha hB⟩
 rintro ⟨x,w,C,hx,hC,hb⟩
 obtain ⟨hne,hx⟩:=drop_alive hx
 rcases h.sep x r w row C B hx ha hC hB hb with rfl | ⟨g,l,l',_,rfl⟩
 ·exact hne rfl
 ·exact hce _ _ rfl
theorem Step.frost (h:Rel E H st) {b:Nat} {cs:Array Value} {t:TypeId} {fz fz':Nat × Nat} (hb:H[b]? = some (.cells cs t fz)) (ho:Owned E st b) (hi:E.imm b=none) (hz:FzOk cs.size fz→FzOk cs.size fz') :
  Step E E H (H.setIfInBounds b (.cells cs t fz')) st st:=by
 have hlt:b < H.size:=(Array.getElem?_eq_some_iff.1 hb).1
 have hold:∀ c,c≠b→(H.setIfInBounds b (.cells cs t fz'))[c]? = H[c]?:=fun c hc=>by rw [Array.getElem?_setIfInBounds_ne (Ne.symm hc)]
 have hnew:(H.setIfInBounds b (.cells cs t fz'))[b]? = some (.cells cs t fz'):=by simp [hlt]
 refine ⟨.refl E,fun _ _ _ h=>h,rfl,⟨?_,h.fresh,h.freshRow,h.freshG,h.liveLt,?_,h.own,h.sep,h.ends,fun x t r0 q hx=>(h.tys x t r0 q hx).mono (.refl E) (TyKeep.set hb)⟩,by simp,?_,fun _ h=>.inr h⟩
 ·intro c o' hc
  have:c≠b:=by rintro rfl; rw [hi] at hc; cases hc
  rw [hold c this]; exact h.imm c o' hc
 ·intro r row hr
  obtain ⟨B,hB,hR⟩:=h.rows r row hr
  refine ⟨B,hB,?_⟩
  by_cases e:B.b=b
  ·cases row with
   | ce l g =>
    obtain ⟨cs',t',fz1,a1,a2,a3,a4,a5⟩:=hR
    rw [e,hb] at a1
    cases a1
    exact ⟨cs,t,fz',by rw [e]; exact hnew,hz a2,a3,a4,a5⟩
   | mp=>obtain ⟨_,a1,_⟩:=hR; rw [e,hb] at a1; cases a1
   | si=>obtain ⟨_,_,a1,_⟩:=hR; rw [e,hb] at a1; cases a1
   | mi=>obtain ⟨_,_,a1,_⟩:=hR; rw [e,hb] at a1; cases a1
   | lp=>obtain ⟨_,_,_,a1,_⟩:=hR; rw [e,hb] at a1; cases a1
   | mu=>obtain ⟨_,_,_,a1,_⟩:=hR; rw [e,hb] at a1; cases a1
   | ch=>obtain ⟨_,_,_,a1,_⟩:=hR; rw [e,hb] at a1; cases a1
   | ty=>exact (show False from hR).elim
  ·exact hR.mono (.refl E) (hold _ e)
 ·intro c hc hn
  exact hold c fun e=>hn (e ▸ ho)
theorem Step.newTy (h:Rel E H st) {t r0:Nat} {x:Bool} (ht:TyAt E H t r0 x):Step E E H H st (st.new (.ty t r0 x)):=by
 have hget:∀ r,(st.new (.ty t r0 x)).get r=if r=st.next then some (.ty t r0 x) else st.get r:=St.get_new st _
 have hal:∀ {r:Nat} {row:Row},(st.new (.ty t r0 x)).alive r=some row→st.alive r=some row:=by
  intro r row hr
  unfold St.alive at hr ⊢
  rw [hget] at hr
  by_cases e:r=st.next
  ·rw [if_pos e] at hr; cases hr
  ·rw [if_neg e] at hr; exact hr
 have hce:∀ {r:Nat} {l:List AV} {g:Nat},(st.new (.ty t r0 x)).get r=some (.ce l g)→st.get r=some (.ce l g):=by
  intro r l g hr
  rw [hget] at hr
  split at hr
  ·cases hr
  ·exact hr
 have hnext:(st.new (.ty t r0 x)).next=st.next+1:=rfl
 refine ⟨.refl E,fun _ _ _ h=>h,rfl,⟨h.imm,fun r hr=>h.fresh r (by omega),fun r hr=>?_,fun g hg=>h.freshG g (by omega),fun g al y hg hy=>?_,fun r row hr=>h.rows r row (hal hr),fun r row B hr hB=>h.own r row B (hal hr) hB,
  fun r r' row row' B B' hr hr' hB hB' hb=>h.sep r r' row row' B B' (hal hr) (hal hr') hB hB' hb,fun g al hg=>?_,fun r t' r' q hr=>?_⟩,Nat.le_refl _,fun _ _ _=>rfl,?_⟩
 ·rw [hget,if_neg (by omega)]; exact h.freshRow r (by omega)
 ·have:=h.liveLt g al y hg hy; omega
 ·refine (h.ends g al hg).imp ?_
  intro a b hab la lb Ba Bb h1 h2
  exact hab la lb Ba Bb (hce h1) (hce h2)
 ·rw [hget] at hr
  split at hr
  ·cases hr; exact ht
  ·exact h.tys r t' r' q hr
 ·rintro b ⟨r,row,B,hr,hB,rfl⟩
  exact .inr ⟨r,row,B,hal hr,hB,rfl⟩
theorem tyR_get {r t:Nat} {x:Bool} (h:tyR st r=some (t,x)):st.get (r+1)=some (.ty t r x):=by
 unfold tyR at h
 split at h
 ·rename_i t' r0 x' hg
  cases hb:Nat.beq r0 r with
  | false=>rw [hb] at h; cases h
  | true =>
   rw [hb] at h
   cases h
   rw [hg,Nat.eq_of_beq_eq_true hb]
 ·cases h
theorem tyIs_at (h:Rel E H st) {r t:Nat} (ht:tyIs st r t=true):TyAt E H t r true:=by
 unfold tyIs at ht
 split at ht
 ·rename_i u hu
  rw [← Nat.eq_of_beq_eq_true ht]
  exact h.tys _ _ _ _ (tyR_get hu)
 ·cases ht
theorem kill_dead {r x:Nat} {l l':List AV} {g:Nat} {al:List Nat} (hr:st.ce r=some (l,g,al)):(st.kill r).alive x≠some (.ce l' g):=by
 intro hx
 have hg:=Rel.alive_get hx
 have hk:st.kill r=⟨st.rows,st.live.set g (some []),st.next⟩:=by unfold St.kill; rw [hr]
 rw [hk] at hx hg
 unfold St.alive at hx
 rw [hg] at hx
 simp only [Tr.get_set,if_pos] at hx
 simp [mem] at hx
theorem Step.killSet (h:Rel E H st) {r:Nat} {l:List AV} {g:Nat} {al:List Nat} (hr:st.ce r=some (l,g,al)) {B:Blk} (hB:E.phi r=some B) {cs:Array Value} {t:TypeId} {fz:Nat × Nat} (hH:H[B.b]? = some (.cells cs t fz)) (cs':Array Value) (fz':Nat × Nat) :
  Step E E H (H.setIfInBounds B.b (.cells cs' t fz')) st (st.kill r):=by
 obtain ⟨ha,-,-,-⟩:=St.ce_spec hr
 refine (Step.kill h r).poke (.inl ⟨r,_,B,ha,hB,rfl⟩) ⟨?_,h.own r _ B ha hB⟩ _ (TyKeep.set hH)
 rintro ⟨x,row,C,hx,hC,hb⟩
 have hx':=(kill_alive hx).1
 rcases h.sep x r row _ C B hx' ha hC hB hb with rfl | ⟨g',l1,l2,rfl,h2⟩
 ·rw [ha] at hx'; cases hx'
  exact kill_dead hr hx
 ·cases h2
  exact kill_dead hr hx
end
end
end Go.Ev
namespace Go.Ev
noncomputable section
section
variable {E : Env}
theorem scal_conc (v:Value):Conc E (scal v) v:=by
 cases v with
 | bool x=>exact .b x
 | int k n=>exact .i k n
 | string s=>exact .s s
 | pointer a=>cases a with
  | none=>exact .pn
  | some a=>exact .bad _
 | slice a n c=>cases a with
  | none =>
   show Conc E (@Bool.rec (fun _=>AV) .bad .sn (Nat.beq (n+c) 0)) _
   rw [nbeq]
   by_cases h:n+c=0
   ·have h1:n=0:=by omega
    have h2:c=0:=by omega
    subst h1; subst h2; exact .sn
   ·simp only [h,decide_false]; exact .bad _
  | some a=>exact .bad _
 | map r=>cases r with
  | none=>exact .mn
  | some r=>exact .bad _
 | func fn a b =>
  show Conc E (@Bool.rec (fun _=>AV) .bad (.f fn [] []) (Nat.beq (a.size+b.size) 0 && notY fn)) _
  cases hh:(Nat.beq (a.size+b.size) 0 && notY fn) with
  | false=>exact .bad _
  | true =>
   simp only [Bool.and_eq_true,nbeq,decide_eq_true_eq] at hh
   obtain ⟨h,hf⟩:=hh
   have h1:a = #[]:=Array.eq_empty_of_size_eq_zero (by omega)
   have h2:b = #[]:=Array.eq_empty_of_size_eq_zero (by omega)
   subst h1; subst h2; exact .f fn [] [] [] [] hf .nil .nil
 | nilFunc=>exact .fn0
 | nilIface=>exact .if0
 | chan r =>
  cases r with
  | none=>exact .cn
  | some r=>exact .bad _
 | _=>exact .bad _
theorem scalL_conc:∀ l:List Value,ConcL E (l.map scal) l
 | []=>.nil
 | v :: l=>.cons _ _ _ _ (scal_conc v) (scalL_conc l)
theorem ofVal_conc (v:Value):Conc E (ofVal v) v:=by
 cases v with
 | agg cs=>exact .ag _ cs.toList (scalL_conc _)
 | tuple cs=>exact .tu _ cs.toList (scalL_conc _)
 | iface t v=>exact .ifc t _ _ (scal_conc v)
 | func fn a b =>
  show Conc E (@Bool.rec (fun _=>AV) .bad (.f fn (a.toList.map scal) (b.toList.map scal)) (notY fn)) _
  cases hf:notY fn with
  | false=>exact .bad _
  | true=>exact .f fn _ _ a.toList b.toList hf (scalL_conc _) (scalL_conc _)
 | bool x=>exact scal_conc (.bool x)
 | int k n=>exact scal_conc (.int k n)
 | float k b=>exact scal_conc (.float k b)
 | complex k a b=>exact scal_conc (.complex k a b)
 | string s=>exact scal_conc (.string s)
 | pointer a=>exact scal_conc (.pointer a)
 | slice a n c=>exact scal_conc (.slice a n c)
 | map r=>exact scal_conc (.map r)
 | chan r=>exact scal_conc (.chan r)
 | nilFunc=>exact scal_conc .nilFunc
 | nilIface=>exact scal_conc .nilIface
theorem evO_conc {nt:Nat} {t:Tr AV} {a:Act} (h:ConcT E nt t a.tmps) (x:Operand):Conc E (evO t x) (a.eval x):=by
 cases x with
 | tmp x=>exact h.2 x
 | const v=>exact ofVal_conc v
 | global g=>exact .gp g
 | func f=>exact .f (.func f) [] [] [] [] rfl .nil .nil
theorem cells_conc {v:AV} {u:Value} {l:List AV} (h:Conc E v u) (hc:v.cells=some l):ConcL E l u.cells.toList:=by
 cases h <;> cases hc <;> first | (simp only [Value.cells]; first | assumption | exact .cons _ _ _ _ (by constructor <;> assumption) .nil) | exact .cons _ _ _ _ .un .nil
theorem args_conc {t:Tr AV} {ρ:Operand→Value} (h:∀ x,Conc E (evO t x) (ρ x)):∀ l:List Operand,ConcL E (args t l) (l.map ρ)
 | []=>.nil
 | x :: l=>.cons _ _ _ _ (h x) (args_conc h l)
end
section
variable {P : Program} {w : World} {t : TypeId}
theorem info_of (h:hasInfo P t=true):∃ i d,P.info? t=some i∧P.underlying t=some d:=by
 unfold hasInfo at h
 simp only [Bool.and_eq_true,Option.isSome_iff_exists] at h
 obtain ⟨⟨i,hi⟩,d,hd⟩:=h
 exact ⟨i,d,hi,hd⟩
theorem run_typeInfo' {i:TypeInfo} (h:P.info? t=some i):(typeInfo t).run P w = .ok i w:=by simp [typeInfo,h]
theorem run_under {d:TypeDesc} (h:P.underlying t=some d):(underlying t).run P w = .ok d w:=by simp [underlying,h]
theorem run_size (h:hasInfo P t=true):(sizeOf t).run P w = .ok (szOf P t) w:=by
 obtain ⟨i,d,hi,hd⟩:=info_of h
 simp [sizeOf,run_typeInfo' hi,szOf,hi]
theorem run_isAg (h:hasInfo P t=true):(isAgg t).run P w = .ok (isAg P t) w:=by
 obtain ⟨i,d,hi,hd⟩:=info_of h
 unfold isAgg isAg
 rw [Sem.run_bind,run_under hd,hd]
 cases d <;> simp
theorem zero_of {v:AV} (h:zeroOf P t=some v):∃ z,v=ofVal z∧∀ w,(zeroValue t).run P w = .ok z w:=by
 unfold zeroOf at h
 split at h
 ·rename_i z _ _ hi
  cases h
  exact ⟨z,rfl,fun w=>by simp [zeroValue,run_typeInfo' hi]⟩
 ·cases h
theorem zeroC_spec {E:Env} {l:List AV} (h:zeroC P t=some l):∃ z,(∀ w,(zeroValue t).run P w = .ok z w)∧ConcL E l z.cells.toList∧hasInfo P t=true∧l.length=szOf P t:=by
 unfold zeroC at h
 cases hz:zeroOf P t with
 | none=>rw [hz] at h; cases h
 | some v =>
  rw [hz] at h
  simp only at h
  cases hc:v.cells with
  | none=>rw [hc] at h; cases h
  | some l' =>
   rw [hc] at h
   simp only [nbeq] at h
   cases hb:hasInfo P t with
   | false=>rw [hb] at h; cases h
   | true =>
    rw [hb,Bool.true_and] at h
    by_cases hl:l'.length=szOf P t
    ·rw [decide_eq_true hl] at h
     cases h
     obtain ⟨z,rfl,hz'⟩:=zero_of hz
     exact ⟨z,hz',cells_conc (ofVal_conc z) hc,rfl,hl⟩
    ·rw [decide_eq_false hl] at h; cases h
theorem part_spec {E:Env} {cs:List AV} {us:Array Value} {off:Nat} {v:AV} (h:part P t cs off=some v) (hc:ConcL E cs us.toList) :
  ∃ u,(Go.part t us off).run P w = .ok u w∧Conc E v u:=by
 unfold part at h
 cases hi:hasInfo P t with
 | false=>rw [hi] at h; cases h
 | true =>
  rw [hi] at h
  simp only at h
  unfold Go.part
  simp only [Sem.run_bind,run_isAg hi,Result.andThen]
  cases ha:isAg P t with
  | true =>
   rw [ha] at h
   simp only at h
   cases hcut:cut cs off (szOf P t) with
   | none=>rw [hcut] at h; cases h
   | some l =>
    rw [hcut] at h; cases h
    obtain ⟨rfl,hlen⟩:=cut_spec hcut
    refine ⟨.agg (us.extract off (off+szOf P t)),by simp [run_size hi],?_⟩
    have e:us.extract off (off+szOf P t)=((us.toList.drop off).take (szOf P t)).toArray:=by
     apply Array.ext'
     simp [Array.toList_extract,List.extract_eq_take_drop]
    rw [e]
    exact .ag _ _ ((hc.drop off).take _)
  | false =>
   rw [ha] at h
   simp only at h
   cases hcut:cut cs off 1 with
   | none=>rw [hcut] at h; cases h
   | some l =>
    rw [hcut] at h
    obtain ⟨rfl,hlen⟩:=cut_spec hcut
    have hlt:off < cs.length:=by omega
    have hlu:off < us.size:=by have:=hc.length; simp at this; omega
    have e1:(cs.drop off).take 1=[cs[off]]:=by
     rw [List.drop_eq_getElem_cons hlt]; rfl
    rw [e1] at h; cases h
    refine ⟨us[off],by simp [hlu],?_⟩
    obtain ⟨u,hu,hcu⟩:=hc.get off cs[off] (by simp [hlt])
    simp [hlu] at hu
    rw [hu]; exact hcu
end
section
variable {P : Program} {w : World} {E : Env} {st : St}
theorem addr_add (b o j:Nat):Addr.add ⟨b,o,none⟩ j=⟨b,o+j,none⟩:=by
 unfold Addr.add; split
 ·rename_i e; subst e; rfl
 ·rfl
theorem run_loadCells_at {b o n:Nat} {cs:List Value} {t:TypeId} {fz:Nat × Nat} (h:w.heap[b]? = some (.cells cs.toArray t fz)) (hn:o+n≤cs.length∨n=0) :
  (loadCells ⟨b,o,none⟩ n).run P w = .ok ((cs.drop o).take n).toArray w:=by
 have hl:((cs.drop o).take n).length=n:=by rw [List.length_take,List.length_drop]; omega
 have:=run_loadCells_list (P:=P) w ⟨b,o,none⟩ ((cs.drop o).take n) (fun j v hj=>by
  have hj':j < n:=by
   rcases Nat.lt_or_ge j n with hh | hh
   ·exact hh
   ·rw [List.getElem?_eq_none (by omega)] at hj; cases hj
  rw [List.getElem?_take_of_lt hj',List.getElem?_drop] at hj
  rw [addr_add]
  simp [World.cell?,h,hj])
 rwa [hl] at this
theorem imm_cell (h:Rel E w.heap st) {b o:Nat} {v:Value} (hc:E.cell b o=some v):w.cell? ⟨b,o,none⟩=some v:=by
 unfold Env.cell at hc
 cases hi:E.imm b with
 | none=>rw [hi] at hc; cases hc
 | some ob =>
  rw [hi] at hc
  have:=h.imm b ob hi
  cases ob <;> first | cases hc | skip
  simp only [World.cell?,this]
  exact hc
theorem run_loadImm (h:Rel E w.heap st) {b o n:Nat} {vs:List Value} (hv:∀ (j:Nat) v,vs[j]? = some v→E.cell b (o+j)=some v) (hn:n≤vs.length) :
  (loadCells ⟨b,o,none⟩ n).run P w = .ok (vs.take n).toArray w:=by
 have hl:(vs.take n).length=n:=by rw [List.length_take]; omega
 have:=run_loadCells_list (P:=P) w ⟨b,o,none⟩ (vs.take n) (fun j v hj=>by
  have hj':j < n:=by
   rcases Nat.lt_or_ge j n with hh | hh
   ·exact hh
   ·rw [List.getElem?_eq_none (by omega)] at hj; cases hj
  rw [List.getElem?_take_of_lt hj'] at hj
  rw [addr_add]
  exact imm_cell h (hv j v hj))
 rwa [hl] at this
theorem rd_spec (h:Rel E w.heap st) {r o n:Nat} {l:List AV} (hr:rd st r o n=some l) {B:Blk} (hB:E.phi r=some B) :
  ∃ us:List Value,(loadCells ⟨B.b,o+B.d,none⟩ n).run P w = .ok us.toArray w∧ConcL E l us∧l.length=n:=by
 unfold rd at hr
 cases hc:st.ce r with
 | none=>rw [hc] at hr; cases hr
 | some x =>
  obtain ⟨cl,g,al⟩:=x
  rw [hc] at hr
  simp only at hr
  obtain ⟨B',cs,t,fz,hB',hH,hfz,hn,hd,hC⟩:=h.cells hc
  rw [hB] at hB'; cases hB'
  have hlen:=cut_length hr
  obtain ⟨rfl,hk⟩:=cut_spec hr
  refine ⟨_,run_loadCells_at hH (by omega),?_,hlen⟩
  have h2:=(hC.drop o).take n
  rw [List.drop_take,List.drop_drop,List.take_take] at h2
  rcases hk with hk | rfl
  ·rw [show min n (cl.length - o)=n by omega,Nat.add_comm B.d o] at h2
   exact h2
  ·simp; exact .nil
theorem loadAt_spec (h:Rel E w.heap st) {t:TypeId} {a v:AV} {u:Value} (hl:loadAt P t st a=some v) (hu:Conc E a u) :
  ∃ x,(Instr.loadAt t u).run P w = .ok x w∧Conc E v x:=by
 unfold loadAt at hl
 cases hi:hasInfo P t with
 | false=>rw [hi] at hl; cases hl
 | true =>
  rw [hi] at hl
  simp only at hl
  cases hp:a.asP with
  | some ro =>
   obtain ⟨r,o⟩:=ro
   have:=AV.asP_some hp
   subst this
   rw [hp] at hl
   simp only at hl
   cases hu with
   | p _ _ B hB =>
    unfold Instr.loadAt loadVar
    simp only [Instr.sureAddr,pure_bind,Sem.run_bind,run_isAg hi,Result.andThen]
    cases ha:isAg P t with
    | true =>
     rw [ha] at hl
     simp only at hl
     cases hr:rd st r o (szOf P t) with
     | none=>rw [hr] at hl; cases hl
     | some l =>
      rw [hr] at hl; cases hl
      obtain ⟨us,h1,h2,-⟩:=rd_spec (P:=P) h hr hB
      exact ⟨.agg us.toArray,by simp [run_size hi,h1],.ag _ _ h2⟩
    | false =>
     rw [ha] at hl
     simp only at hl
     cases hr:rd st r o 1 with
     | none=>rw [hr] at hl; cases hl
     | some l =>
      rw [hr] at hl
      obtain ⟨us,h1,h2,h3⟩:=rd_spec (P:=P) h hr hB
      match l,h3,hl with
      | [v'],_,hl =>
       cases hl
       cases h2 with
       | cons _ _ x xs hx ht =>
        cases ht
        refine ⟨x,?_,hx⟩
        simp only [loadCells,loadCellsFrom,Sem.run_bind,addr_add,Nat.add_zero] at h1
        cases hld:(load ⟨B.b,o+B.d,none⟩:Sem Value).run P w with
        | halt e w'=>rw [hld] at h1; simp at h1
        | ok y w' =>
         rw [hld] at h1
         simp at h1
         obtain ⟨rfl,rfl⟩:=h1
         simp [hld]
  | none =>
   rw [hp] at hl
   simp only at hl
   cases hp2:a.asRp with
   | none=>rw [hp2] at hl; cases hl
   | some c =>
    have:=AV.asRp_some hp2
    subst this
    rw [hp2] at hl
    simp only at hl
    cases hu with
    | rp _ b o vs hv hc =>
     unfold Instr.loadAt loadVar
     simp only [Instr.sureAddr,pure_bind,Sem.run_bind,run_isAg hi,Result.andThen]
     have hlen:=hc.length
     cases ha:isAg P t with
     | true =>
      rw [ha] at hl
      simp only at hl
      cases hr:cut c 0 (szOf P t) with
      | none=>rw [hr] at hl; cases hl
      | some l =>
       rw [hr] at hl; cases hl
       have hk:=cut_length hr
       obtain ⟨rfl,hk2⟩:=cut_spec hr
       refine ⟨.agg (vs.take (szOf P t)).toArray,?_,.ag _ _ (by simpa using hc.take (szOf P t))⟩
       simp [run_size hi,run_loadImm h hv (n:=szOf P t) (by omega)]
     | false =>
      rw [ha] at hl
      simp only at hl
      cases hr:cut c 0 1 with
      | none=>rw [hr] at hl; cases hl
      | some l =>
       rw [hr] at hl
       obtain ⟨rfl,hk2⟩:=cut_spec hr
       cases hc with
       | nil=>simp at hl; cases hl
       | cons v' l' x xs hx ht =>
        simp only [List.drop_zero,List.take_succ_cons,List.take_zero] at hl
        cases hl
        refine ⟨x,?_,hx⟩
        have:=imm_cell h (hv 0 x rfl)
        simp only [Nat.add_zero] at this
        simp [this]
end
section
variable {P : Program} {w : World} {E : Env} {st : St}
theorem bor {a:Bool} {α:Type} {x y:α} (h:(@Bool.rec (fun _=>Option α) none (some x) a)=some y):a=true∧x=y:=by
 cases a with
 | false=>cases h
 | true=>cases h; exact ⟨rfl,rfl⟩
theorem brec {a:Bool} {α:Type} {x:Option α} {y:α} (h:(@Bool.rec (fun _=>Option α) none x a)=some y):a=true∧x=some y:=by
 cases a with
 | false=>cases h
 | true=>exact ⟨rfl,h⟩
theorem storeAt_spec (h:Rel E w.heap st) {t:TypeId} {a v:AV} {ua uv:Value} {st':St} (hs:storeAt P t st a v=some st') (ha:Conc E a ua) (hv:Conc E v uv) :
  ∃ w',(Instr.storeAt t ua uv).run P w = .ok () w'∧StepW E E w w' st st':=by
 unfold storeAt at hs
 cases hp:a.asP with
 | none=>rw [hp] at hs; cases hs
 | some ro =>
  obtain ⟨r,o⟩:=ro
  have:=AV.asP_some hp
  subst this
  rw [hp] at hs
  simp only at hs
  cases hc:v.cells with
  | none=>rw [hc] at hs; cases hs
  | some l =>
   rw [hc] at hs
   simp only [storeC,nbeq] at hs
   obtain ⟨hb,hs⟩:=brec hs
   simp only [Bool.and_eq_true,decide_eq_true_eq] at hb
   obtain ⟨hi,hlen⟩:=hb
   have hcl:=cells_conc hv hc
   obtain ⟨B,cs,tt,fz,h1,h2,h3,h4,h5,h6⟩:=Step.wt h hs hcl
   cases ha with
   | p _ _ B' hB' =>
    rw [h1] at hB'; cases hB'
    have hrun:=run_storeCells_row P B.b (o+B.d) tt fz uv.cells.toList 0 cs w h2 h3.not (by omega) h5
    have hsz:uv.cells.size=szOf P t:=by have:=hcl.length; simp at this; omega
    refine ⟨{ w with heap:=w.heap.setIfInBounds B.b (.cells (ovr cs (o+B.d) uv.cells.toList).toArray tt fz) },?_,.of h6⟩
    unfold Instr.storeAt storeVar
    simp only [Instr.sureAddr,pure_bind,Sem.run_bind,run_size hi,Result.andThen,hsz,ne_eq,not_true_eq_false,if_false,hrun,Nat.add_zero]
theorem alloc_spec (h:Rel E w.heap st) (hn:st.next < E.top) {l:List AV} {us:Array Value} (t:TypeId) (hc:ConcL E l us.toList) :
  ∃ E' w',(newRow t us).run P w = .ok ⟨w.heap.size,0,none⟩ w'∧StepW E E' w w' st (st.newCe l)∧E'.phi st.next=some ⟨w.heap.size,0,us.size⟩:=by
 have hl:=hc.length
 have:=Step.newCe h hn l us.toList t (0,0) (.inl rfl) (by omega) (by rw [List.take_of_length_le (by omega)]; exact hc)
 refine ⟨E.bind st.next ⟨w.heap.size,0,us.size⟩,{ w with heap:=w.heap.push (.cells us t) },by simp [newRow],?_,Env.bind_self⟩
 exact StepW.of (by simpa using this)
theorem foldl_ovr:∀ (cs:List Value) (off k:Nat) (l:Array Value),off+k+cs.length≤l.size →
  ((cs.zipIdx k).foldl (fun l (c,j)=>l.setIfInBounds (off+j) c) l).toList=ovr l.toList (off+k) cs
 | [],off,k,l,h=>by simp [ovr_eq _ _ _ (show off+k+([]:List Value).length≤l.toList.length by simpa using h)]
 | c :: cs,off,k,l,h=>by
  simp only [List.zipIdx_cons,List.foldl_cons]
  rw [foldl_ovr cs off (k+1) _ (by simp at h ⊢; omega)]
  have h1:off+k < l.size:=by simp at h; omega
  rw [ovr_eq _ _ _ (by simp at h ⊢; omega),ovr_eq _ _ _ (by simp at h ⊢; omega)]
  have e:(l.setIfInBounds (off+k) c).toList.take (off+(k+1))=l.toList.take (off+k)++[c]:=by
   rw [Array.toList_setIfInBounds,show off+(k+1)=(off+k)+1 by omega,List.take_succ_eq_append_getElem (by simpa using h1)]
   rw [List.take_set,List.set_eq_of_length_le (by simp; omega)]
   simp
  rw [e]
  simp only [List.append_assoc,List.cons_append,List.nil_append,List.length_cons]
  congr 3
  rw [show off+(k+1)+cs.length=off+k+(cs.length+1) by omega,Array.toList_setIfInBounds,List.drop_set_of_lt (by omega)]
theorem fill_spec {place:Nat→Option (Nat × Nat)} {t:Tr AV} {ρ:Operand→Value} (hρ:∀ x,Conc E (evO t x) (ρ x)):∀ (parts:List (Nat × Operand)) (cells l:List AV) (us:Array Value),
  fill place cells (vals t parts)=some l→ConcL E cells us.toList→∃ us':Array Value,Instr.fill place us (parts.map fun (i,x)=>(i,ρ x))=some us'∧ConcL E l us'.toList
 | [],cells,l,us,hf,hc=>by
  simp only [vals,List.map_nil,fill] at hf
  cases hf
  exact ⟨us,by simp [Instr.fill],hc⟩
 | (i,x) :: parts,cells,l,us,hf,hc=>by
  simp only [vals,List.map_cons,fill] at hf
  cases hp:place i with
  | none=>rw [hp] at hf; cases hf
  | some os =>
   obtain ⟨off,size⟩:=os
   cases hv:(evO t x).cells with
   | none=>rw [hp,hv] at hf; cases hf
   | some cl =>
    rw [hp,hv] at hf
    simp only [nbeq] at hf
    obtain ⟨hb,hf⟩:=brec hf
    simp only [Bool.and_eq_true,decide_eq_true_eq] at hb
    obtain ⟨hb1,hb2⟩:=hb
    have hb2:=Nat.le_of_ble_eq_true hb2
    have hcl:=cells_conc (hρ x) hv
    have hl1:=hcl.length
    have hl2:=hc.length
    simp only [Array.length_toList] at hl1 hl2
    have hsz:(ρ x).cells.size=size:=by omega
    have hle:off+(ρ x).cells.size≤us.size:=by omega
    have hcc:=hc.ovr hcl off (by omega)
    have hfold:=foldl_ovr (ρ x).cells.toList off 0 us (by simp; omega)
    have hfe:((ρ x).cells.zipIdx.foldl (fun cs (c,j)=>cs.setIfInBounds (off+j) c) us).toList=ovr us.toList off (ρ x).cells.toList:=by
     rw [← Array.foldl_toList,Array.toList_zipIdx]
     simpa using hfold
    obtain ⟨us',h1,h2⟩:=fill_spec hρ parts (ovr cells off cl) l _ hf (by rw [hfe]; exact hcc)
    refine ⟨us',?_,h2⟩
    simp only [List.map_cons,Instr.fill,hp,hsz,ne_eq,not_true_eq_false,decide_false,Bool.false_or]
    rw [if_neg (by simp; omega)]
    exact h1
theorem rep_conc {l:List AV} {us:List Value} (h:ConcL E l us):∀ n:Nat,ConcL E (rep n l) (rep n us)
 | 0=>.nil
 | n+1=>h.append (rep_conc h n)
theorem rep_length {α:Type} (l:List α):∀ n:Nat,(rep n l).length=n * l.length
 | 0=>by simp [rep]
 | n+1=>by simp [rep,rep_length l n,Nat.succ_mul,Nat.add_comm]
end
end
end Go.Ev
