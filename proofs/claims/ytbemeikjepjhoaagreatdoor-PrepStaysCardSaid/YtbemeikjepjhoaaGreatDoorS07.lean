/-
  Each operation does in the model's memory what it does in the abstract state: slice expressions, append, copy. · Each operation does in the model's memory what it does in the abstract state: append, copy, bytes and strings.
-/
import Derived.Test.YtbemeikjepjhoaaGreatDoorS06
import Derived.Test.YtbemeikjepjhoaaGreatDoorS05
namespace Go.Ev
noncomputable section
section
variable {P : Program} {w : World} {E : Env} {st : St}
theorem slTy_spec {t z:Nat} (h:slTy P t z=true):∃ e,P.underlying t=some (.slice e)∧hasInfo P e=true∧szOf P e=z:=by
 unfold slTy at h
 split at h
 ·rename_i e he
  simp only [Bool.and_eq_true,nbeq,decide_eq_true_eq] at h
  exact ⟨e,elOf_spec he,h.1,h.2⟩
 ·cases h
theorem extract_toList (s:ByteArray) (a b:Nat):(s.extract a b).data.toList=(s.data.toList.drop a).take (b - a):=by
 simp [List.extract_eq_take_drop]
theorem slice_run {t e len cap a b m:Nat} {a0:Addr} {l h y:Option Value} (hu:P.underlying t=some (.slice e)) (hie:hasInfo P e=true)
  (hr:(Instr.sliceBounds true len cap l h y).run P w = .ok (a,b,m) w) :
  (Instr.sliceAt t (.slice (some a0) len cap) l h y).run P w = .ok (.slice (some (if m=a then a0 else a0.add (a * szOf P e))) (b - a) (m - a)) w:=by
 simp only [Instr.sliceAt,Instr.slice,Sem.run_bind,run_under hu,Result.andThen_ok,hr,run_size hie,Sem.run_pure]
 by_cases hm:m=a <;> simp [hm]
theorem slice_spec {t:TypeId} {x v:AV} {u:Value} {lo hi mx:Option AV} {l h y:Option Value} (hs:slice P t x lo hi mx=some v) (hx:Conc E x u) (h1:ConcO E lo l) (h2:ConcO E hi h) (h3:ConcO E mx y) :
  ∃ z,(Instr.sliceAt t u l h y).run P w = .ok z w∧Conc E v z:=by
 cases hx <;> first | (simp only [slice] at hs; cases hs; done) | skip
 ·rename_i bs
  simp only [slice] at hs
  cases h3 with
  | some _ _ _=>cases hs
  | none =>
   cases hb:bnds (bs.data.toList.map UInt8.toNat).length (bs.data.toList.map UInt8.toNat).length lo hi none with
   | none=>rw [hb] at hs; cases hs
   | some abm =>
    obtain ⟨a,b,m⟩:=abm
    rw [hb] at hs
    obtain ⟨ht,hs'⟩:=bor hs
    subst hs'
    have hu:=isStr_spec ht
    have hlen:(bs.data.toList.map UInt8.toNat).length=bs.size:=by simp
    rw [hlen] at hb
    obtain ⟨c1,c2,c3,hr⟩:=bnds_spec (P:=P) (w:=w) hb h1 h2 .none false
    refine ⟨.string (bs.extract a b),?_,?_⟩
    ·simp only [Instr.sliceAt,Instr.slice,Sem.run_bind,run_under hu,Result.andThen_ok,Option.isSome_none,Bool.false_eq_true,if_false,hr,Sem.run_pure]
    ·rw [← List.map_drop,← List.map_take,← extract_toList]
     exact .s _
 ·rename_i r o B hB
  simp only [slice] at hs
  cases ha:arrOf P t with
  | none=>rw [ha] at hs; cases hs
  | some nz =>
   obtain ⟨n,z⟩:=nz
   rw [ha] at hs
   simp only at hs
   cases hb:bnds n n lo hi mx with
   | none=>rw [hb] at hs; cases hs
   | some abm =>
    obtain ⟨a,b,m⟩:=abm
    rw [hb] at hs; cases hs
    obtain ⟨e,hu,hie,rfl⟩:=arrOf_spec ha
    obtain ⟨c1,c2,c3,hr⟩:=bnds_spec (P:=P) (w:=w) hb h1 h2 h3 false
    refine ⟨.slice (some (if m=a then ⟨B.b,o+B.d,none⟩ else Addr.add ⟨B.b,o+B.d,none⟩ (a * szOf P e))) (b - a) (m - a),?_,?_⟩
    ·simp only [Instr.sliceAt,Sem.run_bind,run_under hu,Result.andThen_ok,Instr.sureAddr,pure_bind,hr,run_size hie,Sem.run_pure]
    ·refine .slk r _ _ _ _ _ (by omega) ?_
     by_cases hm:m=a
     ·left; omega
     ·right
      exact ⟨B,hB,by rw [if_neg hm,addr_add]; congr 1; omega⟩
 ·rename_i r o n z c a0 hle hh
  simp only [slice] at hs
  cases hb:bnds n c lo hi mx with
  | none=>rw [hb] at hs; cases hs
  | some abm =>
   obtain ⟨a,b,m⟩:=abm
   rw [hb] at hs
   obtain ⟨ht,hs'⟩:=bor hs
   subst hs'
   obtain ⟨e,hu,hie,rfl⟩:=slTy_spec ht
   obtain ⟨c1,c2,c3,hr⟩:=bnds_spec (P:=P) (w:=w) hb h1 h2 h3 true
   refine ⟨_,slice_run hu hie hr,.slk r _ _ _ _ _ (by omega) ?_⟩
   by_cases hm:m=a
   ·left; omega
   ·rcases hh with rfl | ⟨B,hB,rfl⟩
    ·left; omega
    ·right; exact ⟨B,hB,by rw [if_neg hm,addr_add]; congr 1; omega⟩
 ·rename_i r o n z c a0 hle hh
  simp only [slice] at hs
  cases hb:bnds n n lo hi mx with
  | none=>rw [hb] at hs; cases hs
  | some abm =>
   obtain ⟨a,b,m⟩:=abm
   rw [hb] at hs
   obtain ⟨ht,hs'⟩:=bor hs
   obtain ⟨e,hu,hie,rfl⟩:=slTy_spec ht
   have hb':=bnds_cap hb hle
   cases h3 with
   | none =>
    simp only [Option.isNone_none] at hs'
    subst hs'
    obtain ⟨c1,c2,c3,hr⟩:=bnds_spec (P:=P) (w:=w) hb' h1 h2 .none true
    simp only [capOf] at c1 c2 c3 hr
    refine ⟨_,slice_run hu hie hr,.slu r _ _ _ _ _ (by omega) ?_⟩
    obtain ⟨B,hB,hcc,hroom⟩:=hh
    refine ⟨B,hB,?_,?_⟩
    ·by_cases hm:c=a
     ·left; omega
     ·rcases hcc with rfl | rfl
      ·left; omega
      ·right; rw [if_neg hm,addr_add]; congr 1; omega
    ·have e3:(c - a) * szOf P e=c * szOf P e - a * szOf P e:=Nat.sub_mul c a _
     have e4:a * szOf P e≤c * szOf P e:=Nat.mul_le_mul_right _ (by omega)
     omega
   | some v0 u0 hv0 =>
    simp only [Option.isNone_some] at hs'
    subst hs'
    obtain ⟨c1,c2,c3,hr⟩:=bnds_spec (P:=P) (w:=w) hb' h1 h2 (.some v0 u0 hv0) true
    simp only [capOf] at c1 c2 c3 hr
    refine ⟨_,slice_run hu hie hr,.slk r _ _ _ _ _ (by omega) ?_⟩
    by_cases hm:m=a
    ·left; omega
    ·obtain ⟨B,hB,hcc,hroom⟩:=hh
     rcases hcc with rfl | rfl
     ·left; omega
     ·right; exact ⟨B,hB,by rw [if_neg hm,addr_add]; congr 1; omega⟩
 ·simp only [slice] at hs
  cases he:elOf P t with
  | none=>rw [he] at hs; cases hs
  | some e =>
   rw [he] at hs
   cases hb:bnds 0 0 lo hi mx with
   | none=>rw [hb] at hs; cases hs
   | some abm =>
    obtain ⟨a,b,m⟩:=abm
    rw [hb] at hs
    obtain ⟨hie,hs'⟩:=bor hs
    subst hs'
    have hu:=elOf_spec he
    obtain ⟨c1,c2,c3,hr⟩:=bnds_spec (P:=P) (w:=w) hb h1 h2 h3 true
    have ea:a=0:=by omega
    have eb:b=0:=by omega
    have em:m=0:=by omega
    subst ea; subst eb; subst em
    refine ⟨.slice none 0 0,?_,.sn⟩
    simp only [Instr.sliceAt,Instr.slice,Sem.run_bind,run_under hu,Result.andThen_ok,hr,run_size hie,Sem.run_pure]
    simp
 ·rename_i c n z kk b0 o0 vs hle hv hc
  simp only [slice] at hs
  cases hb:bnds n n lo hi mx with
  | none=>rw [hb] at hs; cases hs
  | some abm =>
   obtain ⟨a,b,m⟩:=abm
   rw [hb] at hs
   obtain ⟨ht,hs'⟩:=brec hs
   obtain ⟨e,hu,hie,rfl⟩:=slTy_spec ht
   have hb':=bnds_cap hb hle
   cases h3 with
   | none =>
    simp only [Option.isNone_none,Option.some.injEq] at hs'
    subst hs'
    obtain ⟨c1,c2,c3,hr⟩:=bnds_spec (P:=P) (w:=w) hb' h1 h2 .none true
    simp only [capOf] at c1 c2 c3 hr
    refine ⟨_,slice_run hu hie hr,?_⟩
    by_cases hm:kk=a
    ·have e1:b - a=0:=by omega
     have e2:kk - a=0:=by omega
     rw [e1,e2]; exact .rs0 _ _ _ _
    ·rw [if_neg hm,addr_add]
     refine .rs _ _ _ _ b0 (o0+a * szOf P e) (vs.drop (a * szOf P e)) (by omega) (fun j v hj=>?_) (hc.drop _)
     rw [List.getElem?_drop] at hj
     rw [show o0+a * szOf P e+j=o0+(a * szOf P e+j) by omega]
     exact hv _ v hj
   | some v0 u0 hv0 =>
    simp only [Option.isNone_some] at hs'
    obtain ⟨hma,hs''⟩:=bor hs'
    rw [nbeq,decide_eq_true_eq] at hma
    subst hs''
    subst hma
    obtain ⟨c1,c2,c3,hr⟩:=bnds_spec (P:=P) (w:=w) hb' h1 h2 (.some v0 u0 hv0) true
    simp only [capOf] at c1 c2 c3 hr
    refine ⟨_,slice_run hu hie hr,?_⟩
    have e1:b - m=0:=by omega
    rw [e1,Nat.sub_self]
    exact .slk 0 0 0 _ 0 _ (Nat.le_refl _) (.inl rfl)
 ·rename_i c z a0 kk
  simp only [slice] at hs
  cases hb:bnds 0 0 lo hi mx with
  | none=>rw [hb] at hs; cases hs
  | some abm =>
   obtain ⟨a,b,m⟩:=abm
   rw [hb] at hs
   obtain ⟨ht,hs'⟩:=brec hs
   obtain ⟨e,hu,hie,rfl⟩:=slTy_spec ht
   have hb':=bnds_cap hb (Nat.zero_le kk)
   cases h3 with
   | none =>
    simp only [Option.isNone_none,Option.some.injEq] at hs'
    subst hs'
    obtain ⟨c1,c2,c3,hr⟩:=bnds_spec (P:=P) (w:=w) hb' h1 h2 .none true
    simp only [capOf] at c1 c2 c3 hr
    refine ⟨_,slice_run hu hie hr,?_⟩
    have e1:b - a=0:=by
     obtain ⟨c4,c5,c6,-⟩:=bnds_spec (P:=P) (w:=w) hb h1 h2 .none true
     omega
    rw [e1]; exact .rs0 _ _ _ _
   | some v0 u0 hv0 =>
    simp only [Option.isNone_some] at hs'
    obtain ⟨hma,hs''⟩:=bor hs'
    rw [nbeq,decide_eq_true_eq] at hma
    subst hs''
    subst hma
    obtain ⟨c1,c2,c3,hr⟩:=bnds_spec (P:=P) (w:=w) hb' h1 h2 (.some v0 u0 hv0) true
    simp only [capOf] at c1 c2 c3 hr
    refine ⟨_,slice_run hu hie hr,?_⟩
    have e1:b - m=0:=by omega
    rw [e1,Nat.sub_self]
    exact .slk 0 0 0 _ 0 _ (Nat.le_refl _) (.inl rfl)
theorem roomed_spec (h:Rel E w.heap st) {r o n z c:Nat} {a:Addr} (hx:Conc E (.sl r o n z none) (.slice (some a) n c)):roomed st r o z≤c:=by
 cases hx with
 | slu _ _ _ _ _ _ hle hh =>
  obtain ⟨B,hB,-,hroom⟩:=hh
  unfold roomed
  cases hce:st.ce r with
  | none=>exact Nat.zero_le _
  | some lga =>
   obtain ⟨l,g,al⟩:=lga
   simp only
   obtain ⟨B',cs,t,fz,hB',hH,hfz,hn,hdl,hC⟩:=h.cells hce
   rw [hB] at hB'; cases hB'
   rcases Nat.eq_zero_or_pos z with rfl | hz
   ·simp
   ·have h1:=Nat.div_mul_le_self (l.length - o) z
    have h2:(l.length - o) / z * z≤c * z:=by
     rcases Nat.lt_or_ge l.length o with h3 | h3
     ·have:l.length - o=0:=by omega
      rw [this]; simp
     ·omega
    exact Nat.le_of_mul_le_mul_right h2 hz
theorem sliceRoom_spec (h:Rel E w.heap st) {t:TypeId} {x v:AV} {u:Value} {lo hi mx:Option AV} {l hv y:Option Value} (hs:sliceRoom P st t lo hi mx x=some v) (hx:Conc E x u) (h1:ConcO E lo l) (h2:ConcO E hi hv) (h3:ConcO E mx y) :
  ∃ z,(Instr.sliceAt t u l hv y).run P w = .ok z w∧Conc E v z:=by
 unfold sliceRoom at hs
 split at hs
 ·rename_i r o n z
  cases hx with
  | slu _ _ _ _ c a0 hle hh =>
   have hrs:=roomed_spec (w:=w) h (.slu r o n z c a0 hle hh)
   unfold roomed at hrs
   cases hce:st.ce r with
   | none=>rw [hce] at hs; cases hs
   | some lga =>
   obtain ⟨l0,g0,al0⟩:=lga
   rw [hce] at hs hrs
   simp only at hs hrs
   cases hb:bnds n ((l0.length - o) / z) lo hi mx with
   | none=>rw [hb] at hs; cases hs
   | some abm =>
    obtain ⟨a,b,m⟩:=abm
    rw [hb] at hs
    obtain ⟨ht,hs'⟩:=bor hs
    obtain ⟨e,hu,hie,rfl⟩:=slTy_spec ht
    have hb':=bnds_cap2 hb hrs
    cases h3 with
    | none =>
     simp only [Option.isNone_none] at hs'
     subst hs'
     obtain ⟨c1,c2,c3,hr⟩:=bnds_spec (P:=P) (w:=w) hb' h1 h2 .none true
     simp only [capOf] at c1 c2 c3 hr
     refine ⟨_,slice_run hu hie hr,.slu r _ _ _ _ _ (by omega) ?_⟩
     obtain ⟨B,hB,hcc,hroom⟩:=hh
     refine ⟨B,hB,?_,?_⟩
     ·by_cases hm:c=a
      ·left; omega
      ·rcases hcc with rfl | rfl
       ·left; omega
       ·right; rw [if_neg hm,addr_add]; congr 1; omega
     ·have e3:(c - a) * szOf P e=c * szOf P e - a * szOf P e:=Nat.sub_mul c a _
      have e4:a * szOf P e≤c * szOf P e:=Nat.mul_le_mul_right _ (by omega)
      omega
    | some v0 u0 hv0 =>
     simp only [Option.isNone_some] at hs'
     subst hs'
     obtain ⟨c1,c2,c3,hr⟩:=bnds_spec (P:=P) (w:=w) hb' h1 h2 (.some v0 u0 hv0) true
     simp only [capOf] at c1 c2 c3 hr
     refine ⟨_,slice_run hu hie hr,.slk r _ _ _ _ _ (by omega) ?_⟩
     by_cases hm:m=a
     ·left; omega
     ·obtain ⟨B,hB,hcc,hroom⟩:=hh
      rcases hcc with rfl | rfl
      ·left; omega
      ·right; exact ⟨B,hB,by rw [if_neg hm,addr_add]; congr 1; omega⟩
 ·cases hs
theorem sliceR_spec (h:Rel E w.heap st) {t:TypeId} {x v:AV} {u:Value} {lo hi mx:Option AV} {l hv y:Option Value} (hs:sliceR P st t x lo hi mx=some v) (hx:Conc E x u) (h1:ConcO E lo l) (h2:ConcO E hi hv) (h3:ConcO E mx y) :
  ∃ z,(Instr.sliceAt t u l hv y).run P w = .ok z w∧Conc E v z:=by
 unfold sliceR at hs
 split at hs
 ·rename_i v' hv'
  cases hs
  exact slice_spec hv' hx h1 h2 h3
 ·exact sliceRoom_spec h hs hx h1 h2 h3
end
end
end Go.Ev
namespace Go.Ev
noncomputable section
section
variable {P : Program} {w : World} {E : Env} {st : St}
theorem loadCells_zero (a:Addr):(loadCells a 0).run P w = .ok #[] w:=rfl
theorem firstCells_spec (h:Rel E w.heap st) {z n m:Nat} {x:AV} {u:Value} {l:List AV} (hf:firstCells st z n x=some l) (hx:Conc E x u) (hm:lenOf x=some m) (hn:n≤m) :
  ∃ us:List Value,(Builtin.firstCells z n u).run P w = .ok us.toArray w∧ConcL E l us:=by
 cases hx <;> first | (simp only [firstCells] at hf; cases hf; done) | skip
 ·rename_i bs
  simp only [firstCells] at hf
  obtain ⟨-,hf⟩:=bor hf
  subst hf
  refine ⟨((bs.extract 0 n).data.toList.map fun b=>.int .u8 b.toNat),?_,?_⟩
  ·simp only [Builtin.firstCells,Sem.run_pure]
   congr 1
   apply Array.ext'
   simp
  ·have:((bs.extract 0 n).data.toList)=bs.data.toList.take n:=by rw [extract_toList]; simp
   rw [this,← List.map_take]
   generalize bs.data.toList.take n=l
   induction l with
   | nil=>exact .nil
   | cons b l ih=>exact .cons _ _ _ _ (.i _ _) ih
 ·rename_i r o k z' c a hle hh
  simp only [firstCells] at hf
  by_cases h0:n=0
  ·subst h0
   cases hf
   exact ⟨[],by simp [Builtin.firstCells,loadCells_zero],.nil⟩
  ·rw [nbeq,decide_eq_false h0] at hf
   simp only at hf
   cases hm
   rcases hh with rfl | ⟨B,hB,rfl⟩
   ·omega
   ·obtain ⟨us,h1,h2,-⟩:=rd_spec (P:=P) h hf hB
    exact ⟨us,h1,h2⟩
 ·rename_i r o k z' c a hle hh
  simp only [firstCells] at hf
  by_cases h0:n=0
  ·subst h0
   cases hf
   exact ⟨[],by simp [Builtin.firstCells,loadCells_zero],.nil⟩
  ·rw [nbeq,decide_eq_false h0] at hf
   simp only at hf
   cases hm
   obtain ⟨B,hB,hcc,-⟩:=hh
   rcases hcc with rfl | rfl
   ·omega
   ·obtain ⟨us,h1,h2,-⟩:=rd_spec (P:=P) h hf hB
    exact ⟨us,h1,h2⟩
 ·simp only [firstCells] at hf
  by_cases h0:n=0
  ·subst h0
   cases hf
   exact ⟨[],by simp [Builtin.firstCells],.nil⟩
  ·rw [nbeq,decide_eq_false h0] at hf; cases hf
 ·rename_i c k z' kk b o vs hle hv hc
  simp only [firstCells] at hf
  have hl:=cut_length hf
  obtain ⟨rfl,hk⟩:=cut_spec hf
  have hlen:=hc.length
  refine ⟨vs.take (n * z),?_,by simpa using hc.take (n * z)⟩
  simp only [Builtin.firstCells]
  exact run_loadImm h hv (by omega)
 ·simp only [firstCells] at hf
  cases hm
  have h0:n=0:=by omega
  subst h0
  have hl:=cut_length hf
  rw [Nat.zero_mul] at hl
  have:=List.eq_nil_of_length_eq_zero hl
  subst this
  exact ⟨[],by simp [Builtin.firstCells,loadCells_zero],.nil⟩
theorem lenOf_spec {x:AV} {n:Nat} {u:Value} (h:lenOf x=some n) (hx:Conc E x u):(Builtin.lenOf u).run P w = .ok n w:=by
 cases hx <;> first | (cases h; done) | skip
 ·rename_i bs
  cases h
  simp only [Builtin.lenOf,Sem.run_pure,List.length_map]
  rfl
 all_goals (cases h; rfl)
theorem plain_spec {t x:TypeId} {r:List TypeId} (h:plainArg P (t :: x :: r)=true):∃ d,P.underlying x=some d∧∀ k,d≠.int k:=by
 simp only [plainArg] at h
 cases hd:P.underlying x with
 | none=>rw [hd] at h; cases h
 | some d =>
  rw [hd] at h
  exact ⟨d,rfl,by rintro k rfl; cases h⟩
theorem plain_one {t x e:TypeId} {r:List TypeId} {d:TypeDesc} {ty:TypeId} {as:Array Value} (hu:P.underlying t=some (.slice e)) (hd:P.underlying x=some d) (hdf:∀ k,d≠.int k) :
  (Builtin.append_ (t :: x :: r).toArray ty as).run P w=(Builtin.append_ [t].toArray ty as).run P w:=by
 unfold Builtin.append_
 simp only [List.getElem?_toArray,List.getElem?_cons_zero,List.getElem?_cons_succ,List.getElem?_nil]
 cases as[0]? with
 | none=>rfl
 | some s =>
  cases as[1]? with
  | none=>rfl
  | some y =>
   simp only [Sem.run_bind,run_under hu,Result.andThen_ok]
   cases s <;> try rfl
   simp only [Sem.run_bind]
   congr 1
   funext a w'
   simp only [run_under hd,Result.andThen_ok,Sem.run_pure]
theorem append_room {ts:List TypeId} {t e z n sLen sCap:Nat} {base:Option Addr} {ux:Value} {us:List Value} {w':World} (ht:ts.head? = some t) (hu:P.underlying t=some (.slice e)) (hi:hasInfo P e=true) (hz:szOf P e=z)
  (hp:plainArg P ts=true) (hl:∀ w,(Builtin.lenOf ux).run P w = .ok n w) (hroom:sLen+n≤sCap) (hf:(Builtin.firstCells z n ux).run P w = .ok us.toArray w)
  (hs:∀ a,base=some a→(storeCells (a.add (sLen * z)) us).run P w = .ok () w') (hn:base=none→w'=w) (ty:TypeId) :
  (Builtin.append_ ts.toArray ty #[.slice base sLen sCap,ux]).run P w = .ok (.slice base (sLen+n) sCap) w':=by
 obtain ⟨ts',rfl⟩:∃ r,ts=t :: r:=by cases ts with | nil=>cases ht | cons a r=>cases ht; exact ⟨r,rfl⟩
 have fin:(match base with
   | some a=>(do storeCells (a.add (sLen * z)) us; pure (Value.slice base (sLen+n) sCap):Sem Value)
   | none=>pure (Value.slice base (sLen+n) sCap)).run P w = .ok (.slice base (sLen+n) sCap) w':=by
  cases base with
  | none=>rw [hn rfl]; rfl
  | some a=>simp [hs a rfl]
 cases ts' with
 | nil =>
  simp [Builtin.append_,run_under hu,run_size hi,hz,hl,hroom,hf]
  cases base with
  | none=>simpa using fin
  | some a=>simpa using fin
 | cons x r =>
  obtain ⟨d,hd,hdf⟩:=plain_spec hp
  have key:(Builtin.append_ (t :: x :: r).toArray ty #[.slice base sLen sCap,ux]).run P w=(Builtin.append_ [t].toArray ty #[.slice base sLen sCap,ux]).run P w:=plain_one hu hd hdf
  rw [key]
  simp [Builtin.append_,run_under hu,run_size hi,hz,hl,hroom,hf]
  cases base with
  | none=>simpa using fin
  | some a=>simpa using fin
theorem drewAlloc_last (w:World) (o:Obj):(w.drew.alloc o).heap[w.heap.size]? = some o:=by
 show (w.heap.push o)[w.heap.size]? = some o
 simp
theorem append_out {ts:List TypeId} {t e z n sLen sCap:Nat} {base:Option Addr} {ux zero:Value} {us os:List Value} (ht:ts.head? = some t) (hu:P.underlying t=some (.slice e)) (hi:hasInfo P e=true) (hz:szOf P e=z)
  (hp:plainArg P ts=true) (hl:∀ w,(Builtin.lenOf ux).run P w = .ok n w) (hroom:¬ sLen+n≤sCap) (hf:(Builtin.firstCells z n ux).run P w.drew = .ok us.toArray w.drew)
  (ho:(Builtin.firstCells z sLen (.slice base sLen sCap)).run P w.drew = .ok os.toArray w.drew) (hb:1≤byOf P e) (hbig:(2 * (sLen+n)+2000) * byOf P e≤281474976710656)
  (hzero:∀ w,(zeroValue e).run P w = .ok zero w) (ty:TypeId) :
  ∃ newCap,sLen+n≤newCap∧(Builtin.append_ ts.toArray ty #[.slice base sLen sCap,ux]).run P w = .ok (.slice (some ⟨w.heap.size,0,none⟩) (sLen+n) newCap)
   (w.drew.alloc (.cells (os.toArray++(us.toArray++Builtin.zeroCells zero.cells (newCap - (sLen+n)))) e)):=by
 obtain ⟨ts',rfl⟩:∃ r,ts=t :: r:=by cases ts with | nil=>cases ht | cons a r=>cases ht; exact ⟨r,rfl⟩
 obtain ⟨i,dd,hinf,hdd⟩:=info_of hi
 have hby:byOf P e=i.bytes:=by simp [byOf,hinf]
 rw [hby] at hb hbig
 have hgrow:∀ (k c:Nat),c < sLen+n+0→Builtin.growBy (sLen+n) k c≤2 * (sLen+n)+1000:=by
  intro k
  induction k with
  | zero=>intro c hc; simp only [Builtin.growBy]; omega
  | succ k ih =>
   intro c hc
   simp only [Builtin.growBy]
   rw [if_neg (by omega)]
   by_cases h2:c+(c+768) / 4 < sLen+n+0
   ·exact ih _ h2
   ·cases k with
    | zero=>simp only [Builtin.growBy]; omega
    | succ k=>simp only [Builtin.growBy]; rw [if_pos (by omega)]; omega
 have hcap:Builtin.nextslicecap (sLen+n) sCap≤2 * (sLen+n)+1000:=by
  unfold Builtin.nextslicecap
  split
  ·omega
  ·split
   ·omega
   ·exact hgrow 4 sCap (by omega)
 have hbytes:¬ Builtin.nextslicecap (sLen+n) sCap * i.bytes > 2 ^ 48:=by
  have:Builtin.nextslicecap (sLen+n) sCap * i.bytes≤(2 * (sLen+n)+2000) * i.bytes:=Nat.mul_le_mul_right _ (by omega)
  omega
 have hsmall:sLen+n≤281474976710656:=by
  have:(2 * (sLen+n)+2000) * 1≤(2 * (sLen+n)+2000) * i.bytes:=Nat.mul_le_mul_left _ hb
  omega
 have hmax:¬ (((sLen+n:Nat):Int) > IntKind.i64.max):=by
  simp [IntKind.max,IntKind.signed,IntKind.bits]; omega
 have hq:(Question.appendCap (sLen+n) sCap e).forced=false:=rfl
 have hb0:¬ i.bytes=0:=by omega
 refine ⟨sLen+n+w.tape w.drawn (.appendCap (sLen+n) sCap e) % (2 ^ 63 - (sLen+n)),by omega,?_⟩
 cases ts' with
 | nil =>
  simp [Builtin.append_,run_under hu,run_size hi,hz,hl,hroom,hf,ho,run_typeInfo' hinf,hbytes,hq,Question.cut,hzero,newRow,hb0]
 | cons x r =>
  obtain ⟨d,hd,hdf⟩:=plain_spec hp
  rw [plain_one hu hd hdf]
  simp [Builtin.append_,run_under hu,run_size hi,hz,hl,hroom,hf,ho,run_typeInfo' hinf,hbytes,hq,Question.cut,hzero,newRow,hb0]
theorem fits_spec {e need:Nat} (h:fits P e need=true):∃ z,(∀ w,(zeroValue e).run P w = .ok z w)∧z.cells.size=szOf P e∧1≤byOf P e∧(2 * need+2000) * byOf P e≤281474976710656:=by
 unfold fits at h
 simp only [Bool.and_eq_true] at h
 obtain ⟨⟨h1,h2⟩,h3⟩:=h
 cases hz:zeroC P e with
 | none=>rw [hz] at h1; cases h1
 | some l =>
  obtain ⟨z,g1,g2,g3,g4⟩:=zeroC_spec (E:=⟨fun _=>none,fun _=>none,0⟩) hz
  refine ⟨z,g1,?_,Nat.le_of_ble_eq_true h2,Nat.le_of_ble_eq_true h3⟩
  have:=g2.length
  simp at this
  omega
theorem zeroCells_size (z:Array Value) (n:Nat):(Builtin.zeroCells z n).size=n * z.size:=by simp [Builtin.zeroCells]
theorem fresh_slice (h:Rel E w.heap st) (hn:st.next < E.top) {z need newCap:Nat} {cs:List AV} {us:List Value} {zc:Array Value} (e:TypeId) (hc:ConcL E cs us) (hl:us.length=need * z) (hz:zc.size=(newCap - need) * z) (hle:need≤newCap) :
  ∃ E',Step E E' w.heap (w.drew.alloc (.cells (us.toArray++zc) e)).heap st (st.newCe cs)∧Conc E' (.sl st.next 0 need z none) (.slice (some ⟨w.heap.size,0,none⟩) need newCap)∧TyAt E' (w.drew.alloc (.cells (us.toArray++zc) e)).heap e st.next true:=by
 have hcl:=hc.length
 have hs:=Step.newCe h hn cs (us++zc.toList) e (0,0) (.inl rfl) (by simp; omega) (by
  rw [hcl,List.take_append_of_le_length (Nat.le_refl _),List.take_of_length_le (Nat.le_refl _)]; exact hc)
 have e1:(us++zc.toList).toArray=us.toArray++zc:=by apply Array.ext'; simp
 rw [e1] at hs
 refine ⟨_,hs,.slu _ _ _ _ _ _ hle ⟨_,Env.bind_self,.inr (by simp),?_⟩,⟨_,Env.bind_self,fun _=>rfl,us.toArray++zc,(0,0),drewAlloc_last w _⟩⟩
 simp only [List.length_append,Array.length_toList,hl,hz]
 have:need * z+(newCap - need) * z=newCap * z:=by rw [← Nat.add_mul]; congr 1; omega
 omega
def OldTy (E:Env) (H:Array Obj) (e:Nat):AV→Prop
 | .sn=>True
 | .sl r o _ _ _=>o=0∧TyAt E H e r true
 | _=>False
def NewTy (E:Env) (H:Array Obj) (e:Nat):AV→Prop
 | .sl r _ _ _ _=>TyAt E H e r true
 | _=>True
theorem append_specT (h:Rel E w.heap st) {ts:List TypeId} {s x v:AV} {us ux:Value} {st':St} (ha:append P st ts s x=some (v,st')) (hs:Conc E s us) (hx:Conc E x ux) (hn:st'.next≤E.top) (ty:TypeId) :
  ∃ E' w' cv,(Builtin.append_ ts.toArray ty #[us,ux]).run P w = .ok cv w'∧StepW E E' w w' st st'∧Conc E' v cv∧(∀ t r e,ts=t :: r→elOf P t=some e→OldTy E w.heap e s→NewTy E' w'.heap e v):=by
 unfold append at ha
 split at ha
 ·cases ha
 ·rename_i t r
  cases he:elOf P t with
  | none=>rw [he] at ha; cases ha
  | some e =>
   cases hl:lenOf x with
   | none=>rw [he,hl] at ha; cases ha
   | some n =>
    rw [he,hl] at ha
    simp only at ha
    cases hf:firstCells st (szOf P e) n x with
    | none=>rw [hf] at ha; cases ha
    | some new =>
     rw [hf] at ha
     simp only at ha
     obtain ⟨hb,ha⟩:=brec ha
     simp only [Bool.and_eq_true] at hb
     obtain ⟨⟨hp,hi⟩,hsc⟩:=hb
     have hu:=elOf_spec he
     have hlen:∀ w:World,(Builtin.lenOf ux).run P w = .ok n w:=fun w=>lenOf_spec hl hx
     obtain ⟨nu,hnu,hnc⟩:=firstCells_spec (P:=P) h hf hx hl (Nat.le_refl _)
     obtain ⟨nu',hnu',hnc'⟩:=firstCells_spec (P:=P) (w:=w.drew) h hf hx hl (Nat.le_refl _)
     have hn0:n=0→nu=[]:=by
      rintro rfl
      have hq:=hnc.length
      cases hx <;> first | (simp only [firstCells] at hf; cases hf; done) | skip
      all_goals first
       | (simp only [firstCells,List.take_zero,List.map_nil] at hf; obtain ⟨-,hf⟩:=bor hf; subst hf; exact List.eq_nil_of_length_eq_zero hq.symm)
       | (simp only [firstCells,nbeq,decide_true,Option.some.injEq] at hf; subst hf; exact List.eq_nil_of_length_eq_zero hq.symm)
       | (simp only [firstCells,Nat.zero_mul] at hf; have hc:=cut_length hf; rw [hc] at hq; exact List.eq_nil_of_length_eq_zero hq.symm)
     have hone:=allSc_one hnc hsc
     have tyk:∀ {E':Env} {H':Array Obj} {s v:AV},(OldTy E w.heap e s→NewTy E' H' e v)→∀ t' r' e',t :: r=t' :: r'→elOf P t'=some e'→OldTy E w.heap e' s→NewTy E' H' e' v:=by
      intro E' H' s v hh t' r' e' h1 h2
      cases h1
      rw [he] at h2; cases h2
      exact hh
     have anew:∀ (base:Option Addr) (sLen sCap:Nat) (old:List AV) (os:List Value),¬ sLen+n≤sCap→fits P e (sLen+n)=true →
       (Builtin.firstCells (szOf P e) sLen (.slice base sLen sCap)).run P w.drew = .ok os.toArray w.drew→ConcL E old os→os.length=sLen * szOf P e→nu'.length=n * szOf P e →
       ∃ newCap zc,sLen+n≤newCap∧zc.size=(newCap - (sLen+n)) * szOf P e∧(Builtin.append_ (t :: r).toArray ty #[.slice base sLen sCap,ux]).run P w =
        .ok (.slice (some ⟨w.heap.size,0,none⟩) (sLen+n) newCap) (w.drew.alloc (.cells ((os++nu').toArray++zc) e)):=by
      intro base sLen sCap old os hroom hfit ho hco hol hnl
      obtain ⟨z,g1,g2,g3,g4⟩:=fits_spec hfit
      obtain ⟨newCap,k1,k2⟩:=append_out (w:=w) (ts:=t :: r) rfl hu hi rfl hp hlen hroom hnu' ho g3 g4 g1 ty
      refine ⟨newCap,Builtin.zeroCells z.cells (newCap - (sLen+n)),k1,by rw [zeroCells_size,g2],?_⟩
      rw [k2]
      congr 3
      apply Array.ext'
      simp
     have nlen:n≠0→nu'.length=n * szOf P e:=by
      intro h0
      have hq:=hnc'.length
      cases hx <;> first | (simp only [firstCells] at hf; cases hf; done) | skip
      ·simp only [firstCells,nbeq] at hf
       obtain ⟨hz1,hf⟩:=bor hf
       rw [decide_eq_true_eq] at hz1
       subst hf
       cases hl
       rw [← hq,hz1]
       simp
      ·simp only [firstCells,nbeq,decide_eq_false h0] at hf
       unfold rd at hf; split at hf
       ·rw [cut_length hf] at hq; exact hq.symm
       ·cases hf
      ·simp only [firstCells,nbeq,decide_eq_false h0] at hf
       unfold rd at hf; split at hf
       ·rw [cut_length hf] at hq; exact hq.symm
       ·cases hf
      ·simp only [firstCells,nbeq,decide_eq_false h0] at hf; cases hf
      ·simp only [firstCells] at hf
       rw [cut_length hf] at hq; exact hq.symm
      ·simp only [firstCells] at hf
       rw [cut_length hf] at hq; exact hq.symm
     cases hs with
     | sn =>
      simp only at ha
      by_cases h0:n=0
      ·rw [nbeq,decide_eq_true h0] at ha; cases ha
       have hr:=append_room (w:=w) (w':=w) (ts:=t :: r) (base:=none) (sLen:=0) (sCap:=0) (us:=nu) rfl hu hi rfl hp hlen (by omega) hnu (fun a e=>by cases e) (fun _=>rfl) ty
       rw [h0] at hr
       exact ⟨E,w,_,hr,.refl h,.sn,tyk fun _=>trivial⟩
      ·rw [nbeq,decide_eq_false h0] at ha
       simp only at ha
       obtain ⟨hfit,ha⟩:=bor ha
       cases ha
       obtain ⟨newCap,zc,k1,k2,k3⟩:=anew none 0 0 [] [] (by omega) (by simpa using hfit) (by simp [Builtin.firstCells]) .nil (by simp) (nlen h0)
       obtain ⟨E',q1,q2,q3⟩:=fresh_slice (w:=w) h (show st.next+1≤E.top from hn) (z:=szOf P e) (need:=0+n) (newCap:=newCap) e (ConcL.append .nil hnc') (by simpa using nlen h0) k2 k1
       exact ⟨E',_,_,k3,⟨by simpa using q1,rfl,rfl⟩,by simpa [grow] using q2,tyk fun _=>by simpa [grow,NewTy] using q3⟩
     | rs c len z k b o vs hle hv hc =>
      simp only at ha
      obtain ⟨h0,ha⟩:=bor ha
      rw [nbeq,decide_eq_true_eq] at h0
      cases ha
      have hr:=append_room (w:=w) (w':=w) (ts:=t :: r) (base:=some ⟨b,o,none⟩) (sLen:=len) (sCap:=k) (us:=nu) rfl hu hi rfl hp hlen (by omega) hnu (fun a e=>by rw [hn0 h0]; rfl) (fun _=>rfl) ty
      rw [h0,Nat.add_zero] at hr
      exact ⟨E,w,_,hr,.refl h,.rs c len z k b o vs hle hv hc,tyk fun _=>trivial⟩
     | rs0 c z a0 k0 =>
      simp only at ha
      obtain ⟨h0,ha⟩:=bor ha
      rw [nbeq,decide_eq_true_eq] at h0
      cases ha
      have hr:=append_room (w:=w) (w':=w) (ts:=t :: r) (base:=some a0) (sLen:=0) (sCap:=k0) (us:=nu) rfl hu hi rfl hp hlen (by omega) hnu (fun a e=>by rw [hn0 h0]; rfl) (fun _=>rfl) ty
      rw [h0] at hr
      exact ⟨E,w,_,hr,.refl h,.rs0 c z a0 k0,tyk fun _=>trivial⟩
     | slk r0 o len z c a0 hle hh =>
      simp only at ha
      obtain ⟨hzz,ha⟩:=brec ha
      rw [nbeq,decide_eq_true_eq] at hzz
      subst hzz
      by_cases h0:n=0
      ·rw [nbeq,decide_eq_true h0] at ha; cases ha
       have hr:=append_room (w:=w) (w':=w) (ts:=t :: r) (base:=some a0) (sLen:=len) (sCap:=c) (us:=nu) rfl hu hi rfl hp hlen (by omega) hnu (fun a e=>by rw [hn0 h0]; rfl) (fun _=>rfl) ty
       rw [h0,Nat.add_zero] at hr
       exact ⟨E,w,_,hr,.refl h,.slk _ _ _ _ _ _ hle hh,tyk fun ht=>ht.2⟩
      ·rw [nbeq,decide_eq_false h0] at ha
       simp only at ha
       cases hroom:Nat.ble (len+n) c with
       | true =>
        rw [hroom] at ha
        simp only at ha
        have hroom:=Nat.le_of_ble_eq_true hroom
        cases hw:wt st r0 (o+len * szOf P e) new with
        | none=>rw [hw] at ha; cases ha
        | some st1 =>
         rw [hw] at ha; cases ha
         obtain ⟨B,cs,tt,fz,g1,g2,g3,g4,g5,g6⟩:=Step.wt h hw hnc
         rcases hh with rfl | ⟨B',hB',rfl⟩
         ·omega
         ·rw [g1] at hB'; cases hB'
          have hrun:=run_storeCells_row P B.b (o+len * szOf P e+B.d) tt fz nu 0 cs w g2 g3.not (by omega) g5
          have hr:=append_room (w:=w) (ts:=t :: r) (base:=some ⟨B.b,o+B.d,none⟩) (sLen:=len) (sCap:=c) (us:=nu) rfl hu hi rfl hp hlen hroom hnu
           (fun a ea=>by cases ea; rw [addr_add,show o+B.d+len * szOf P e=o+len * szOf P e+B.d by omega]; exact hrun) (fun e=>by cases e) ty
          exact ⟨E,_,_,hr,.of (by simpa using g6),.slk _ _ _ _ _ _ hroom (.inr ⟨B,g1,rfl⟩),tyk fun ht=>ht.2.mono (.refl E) (TyKeep.set g2)⟩
       | false =>
        rw [hroom] at ha
        simp only at ha
        have hroom:¬ len+n≤c:=by
         intro hc; rw [Nat.ble_eq_true_of_le hc] at hroom; cases hroom
        obtain ⟨hfit,ha⟩:=brec ha
        cases hfo:firstCells st (szOf P e) len (.sl r0 o len (szOf P e) (some c)) with
        | none=>rw [hfo] at ha; cases ha
        | some old =>
         rw [hfo] at ha; cases ha
         obtain ⟨os,q1,q2⟩:=firstCells_spec (P:=P) (w:=w.drew) h hfo (.slk r0 o len _ c a0 hle hh) rfl (Nat.le_refl _)
         have hol:os.length=len * szOf P e:=by
          have hq:=q2.length
          simp only [firstCells,nbeq] at hfo
          by_cases hl0:len=0
          ·rw [decide_eq_true hl0] at hfo; cases hfo; rw [hl0,Nat.zero_mul]; exact hq.symm
          ·rw [decide_eq_false hl0] at hfo
           simp only [rd] at hfo
           split at hfo
           ·rw [cut_length hfo] at hq; exact hq.symm
           ·cases hfo
         obtain ⟨newCap,zc,k1,k2,k3⟩:=anew (some a0) len c old os hroom hfit q1 q2 hol (nlen h0)
         obtain ⟨E',p1,p2,p3⟩:=fresh_slice (w:=w) h (show st.next+1≤E.top from hn) (z:=szOf P e) (need:=len+n) (newCap:=newCap) e (ConcL.append q2 hnc') (by rw [List.length_append,hol,nlen h0,Nat.add_mul]) k2 k1
         exact ⟨E',_,_,k3,⟨p1,rfl,rfl⟩,p2,tyk fun _=>p3⟩
     | slu r0 o len z c a0 hle hh =>
      simp only at ha
      obtain ⟨hzz,ha⟩:=brec ha
      rw [nbeq,decide_eq_true_eq] at hzz
      subst hzz
      by_cases h0:n=0
      ·rw [nbeq,decide_eq_true h0] at ha; cases ha
       have hr:=append_room (w:=w) (w':=w) (ts:=t :: r) (base:=some a0) (sLen:=len) (sCap:=c) (us:=nu) rfl hu hi rfl hp hlen (by omega) hnu (fun a e=>by rw [hn0 h0]; rfl) (fun _=>rfl) ty
       rw [h0,Nat.add_zero] at hr
       exact ⟨E,w,_,hr,.refl h,.slu _ _ _ _ _ _ hle hh,tyk fun ht=>ht.2⟩
      ·rw [nbeq,decide_eq_false h0] at ha
       simp only at ha
       unfold growAny at ha
       cases hrm:Nat.ble (len+n) (roomed st r0 o (szOf P e)) with
       | true =>
        rw [hrm] at ha
        simp only at ha
        have hroom:len+n≤c:=Nat.le_trans (Nat.le_of_ble_eq_true hrm) (roomed_spec (w:=w) h (.slu r0 o len _ c a0 hle hh))
        cases hw:wt st r0 (o+len * szOf P e) new with
        | none=>rw [hw] at ha; cases ha
        | some st1 =>
         rw [hw] at ha; cases ha
         obtain ⟨B,cs,tt,fz,g1,g2,g3,g4,g5,g6⟩:=Step.wt h hw hnc
         obtain ⟨B',hB',hcc,hbound⟩:=hh
         rcases hcc with rfl | rfl
         ·omega
         ·rw [g1] at hB'; cases hB'
          have hrun:=run_storeCells_row P B.b (o+len * szOf P e+B.d) tt fz nu 0 cs w g2 g3.not (by omega) g5
          have hr:=append_room (w:=w) (ts:=t :: r) (base:=some ⟨B.b,o+B.d,none⟩) (sLen:=len) (sCap:=c) (us:=nu) rfl hu hi rfl hp hlen hroom hnu
           (fun a ea=>by cases ea; rw [addr_add,show o+B.d+len * szOf P e=o+len * szOf P e+B.d by omega]; exact hrun) (fun e=>by cases e) ty
          exact ⟨E,_,_,hr,.of (by simpa using g6),.slu _ _ _ _ _ _ hroom ⟨B,g1,.inr rfl,hbound⟩,tyk fun ht=>ht.2.mono (.refl E) (TyKeep.set g2)⟩
       | false =>
       rw [hrm] at ha
       obtain ⟨hfit,ha⟩:=brec ha
       unfold growRow at ha
       cases hce:st.ce r0 with
       | none=>rw [hce] at ha; cases ha
       | some lga =>
        obtain ⟨l,g,al⟩:=lga
        rw [hce] at ha
        simp only at ha
        cases hcut:cut l o (len * szOf P e) with
        | none=>rw [hcut] at ha; cases ha
        | some old =>
         rw [hcut] at ha
         simp only [nbeq,Option.some.injEq,Prod.mk.injEq] at ha
         obtain ⟨rfl,rfl⟩:=ha
         have hnt:st.next < E.top:=hn
         generalize hal:(@Bool.rec (fun _=>List Nat) [st.next] (st.next :: from_ r0 al) (decide (o+len * szOf P e=l.length)))=al'
         have hal':(al'=st.next :: from_ r0 al∧o+len * szOf P e=l.length)∨al'=[st.next]:=by
          by_cases hq:o+len * szOf P e=l.length
          ·left; rw [decide_eq_true hq] at hal; exact ⟨hal.symm,hq⟩
          ·right; rw [decide_eq_false hq] at hal; exact hal.symm
         by_cases hroom:len+n≤c
         ·obtain ⟨B,hB,hcc,hbound⟩:=hh
          rcases hcc with rfl | rfl
          ·omega
          ·have hmul:(len+n) * szOf P e≤c * szOf P e:=Nat.mul_le_mul_right _ hroom
           rw [Nat.add_mul] at hmul
           have hq:=hnc.length
           have hq':=hnc'.length
           have hnl:=nlen h0
           obtain ⟨cs,tt,fz,g1,g2,g3,g4⟩:=Step.growIn h hnt hce hcut hal' hnc hB (by omega)
           have hrun:=run_storeCells_row P B.b (o+B.d+len * szOf P e) tt fz nu 0 cs w g1 g2.not (by omega) hone
           have hr:=append_room (w:=w) (ts:=t :: r) (base:=some ⟨B.b,o+B.d,none⟩) (sLen:=len) (sCap:=c) (us:=nu) rfl hu hi rfl hp hlen hroom hnu
            (fun a ea=>by cases ea; rw [addr_add]; exact hrun) (fun e=>by cases e) ty
           refine ⟨_,_,_,hr,.of g4,.slu _ _ _ _ _ _ hroom ⟨_,Env.bind_self,.inr (by simp),?_⟩,tyk fun ht=>?_⟩
           case refine_2 =>
            obtain ⟨ho,B2,hB2,hd2,cs2,fz2,hc2⟩:=ht
            rw [hB] at hB2; cases hB2
            have hlt:=(Array.getElem?_eq_some_iff.1 g1).1
            have htt:tt=e:=by rw [g1] at hc2; simp only [Option.some.injEq,Obj.cells.injEq] at hc2; exact hc2.2.1
            subst htt
            exact ⟨_,Env.bind_self,fun _=>by show o+B.d=0; rw [ho,hd2 rfl],_,_,Array.getElem?_setIfInBounds_self_of_lt hlt⟩
           simp only
           omega
         ·have hfo:firstCells st (szOf P e) len (.sl r0 o len (szOf P e) none)=some old∨len=0:=by
           by_cases hl0:len=0
           ·exact .inr hl0
           ·left
            simp only [firstCells,nbeq,decide_eq_false hl0,rd,hce,hcut]
          have hold:∃ os:List Value,(Builtin.firstCells (szOf P e) len (.slice (some a0) len c)).run P w.drew = .ok os.toArray w.drew∧ConcL E old os:=by
           rcases hfo with hfo | rfl
           ·exact firstCells_spec (P:=P) (w:=w.drew) h hfo (.slu r0 o len _ c a0 hle hh) rfl (Nat.le_refl _)
           ·have:=cut_length hcut
            rw [Nat.zero_mul] at this
            have:=List.eq_nil_of_length_eq_zero this
            subst this
            exact ⟨[],by simp [Builtin.firstCells,loadCells_zero],.nil⟩
          obtain ⟨os,q1,q2⟩:=hold
          have hol:os.length=len * szOf P e:=by rw [← q2.length]; exact cut_length hcut
          obtain ⟨newCap,zc,k1,k2,k3⟩:=anew (some a0) len c old os hroom hfit q1 q2 hol (nlen h0)
          have hcc:=ConcL.append q2 hnc'
          have hcl:=hcc.length
          have hs':=Step.growOut h hnt hce hcut hal' (vs:=(os++nu')++zc.toList) e (by rw [hcl]; simp) (by
           rw [hcl,List.take_append_of_le_length (Nat.le_refl _),List.take_of_length_le (Nat.le_refl _)]; exact hcc)
          have e1:((os++nu')++zc.toList).toArray=(os++nu').toArray++zc:=by apply Array.ext'; simp
          rw [e1] at hs'
          refine ⟨_,_,_,k3,⟨hs',rfl,rfl⟩,.slu _ _ _ _ _ _ k1 ⟨_,Env.bind_self,.inr (by simp),?_⟩,tyk fun _=>⟨_,Env.bind_self,fun _=>rfl,_,(0,0),drewAlloc_last w _⟩⟩
          simp only [List.length_append,Array.length_toList,hol,nlen h0,k2]
          have:len * szOf P e+n * szOf P e+(newCap - (len+n)) * szOf P e=newCap * szOf P e:=by
           rw [← Nat.add_mul,← Nat.add_mul]; congr 1; omega
          omega
     | _=>cases ha
theorem append_spec (h:Rel E w.heap st) {ts:List TypeId} {s x v:AV} {us ux:Value} {st':St} (ha:append P st ts s x=some (v,st')) (hs:Conc E s us) (hx:Conc E x ux) (hn:st'.next≤E.top) (ty:TypeId) :
  ∃ E' w' cv,(Builtin.append_ ts.toArray ty #[us,ux]).run P w = .ok cv w'∧StepW E E' w w' st st'∧Conc E' v cv:=by
 obtain ⟨E',w',cv,h1,h2,h3,-⟩:=append_specT h ha hs hx hn ty
 exact ⟨E',w',cv,h1,h2,h3⟩
theorem oldTy_spec (h:Rel E w.heap st) {e:Nat} {s:AV} (ho:oldTy st e s=true):OldTy E w.heap e s:=by
 unfold oldTy at ho
 split at ho
 ·trivial
 ·simp only [Bool.and_eq_true] at ho
  exact ⟨Nat.eq_of_beq_eq_true ho.2,tyIs_at h ho.1⟩
 ·cases ho
theorem appT_spec (h:Rel E w.heap st) {ts:List TypeId} {s x v:AV} {us ux:Value} {st':St} (ha:appT P st ts s (append P st ts s x)=some (v,st')) (hs:Conc E s us) (hx:Conc E x ux) (hn:st'.next≤E.top) (ty:TypeId) :
  ∃ E' w' cv,(Builtin.append_ ts.toArray ty #[us,ux]).run P w = .ok cv w'∧StepW E E' w w' st st'∧Conc E' v cv:=by
 unfold appT at ha
 cases hy:tyEl P ts with
 | none=>rw [hy] at ha; exact append_spec h ha hs hx hn ty
 | some e =>
  rw [hy] at ha
  simp only at ha
  cases hap:append P st ts s x with
  | none=>rw [hap] at ha; cases ha
  | some p =>
   obtain ⟨v1,st1⟩:=p
   rw [hap] at ha
   unfold addTyS at ha
   split at ha
   ·rename_i r o n z c st2 heq
    cases heq
    cases hk:(oldTy st e s && Nat.beq (r+1) st1.next) with
    | false=>rw [hk] at ha; cases ha; exact append_spec h hap hs hx hn ty
    | true =>
     rw [hk] at ha
     cases ha
     simp only [Bool.and_eq_true] at hk
     have hn1:st1.next+1≤E.top:=hn
     obtain ⟨E',w',cv,h1,h2,h3,h4⟩:=append_specT h hap hs hx (by omega) ty
     have hte:∃ t r',ts=t :: r'∧elOf P t=some e:=by
      unfold tyEl at hy
      split at hy
      ·rename_i t r'
       split at hy
       ·rename_i e' he
        unfold u8El at hy
        obtain ⟨-,hy⟩:=bor hy
        subst hy
        exact ⟨t,r',rfl,he⟩
       ·cases hy
      ·cases hy
     obtain ⟨t,r',ht,he⟩:=hte
     have hty:=h4 t r' e ht he (oldTy_spec h hk.1)
     have s2:=Step.newTy h2.rel (show TyAt E' w'.heap e r true from hty)
     exact ⟨E',w',cv,h1,⟨h2.toStep.trans s2,h2.os,h2.out⟩,h3⟩
   ·rename_i hne
    rw [← hap] at ha
    exact append_spec h ha hs hx hn ty
end
end
end Go.Ev
