/-
  Data in rows of the call's own, read by value; functions that only read, and give a plain value, are called with their arguments read so. · Programs of the core, as data: what the cells ahead of parts are; names.
-/
import Derived.Test.YtbemeikjepjhoaaGreatDoorS25
namespace Go.Ev
noncomputable section
variable {P : Program}
mutual
def pureV:AV→Bool
 | .bad=>true
 | .un=>true
 | .b _=>true
 | .i _ _=>true
 | .s _=>true
 | .p _ _=>false
 | .pn=>true
 | .gp _=>true
 | .rp c=>pureL c
 | .sl _ _ _ _ _=>false
 | .sn=>true
 | .rs c _ _=>pureL c
 | .m _=>false
 | .mn=>true
 | .f fn x y=>notY fn && (pureL x && pureL y)
 | .fn0=>true
 | .ifc _ v=>pureV v
 | .if0=>true
 | .ag l=>pureL l
 | .tu l=>pureL l
 | .c _=>false
 | .cn=>true
def pureL:List AV→Bool
 | []=>true
 | v :: l=>pureV v && pureL l
end
theorem pcell {E F:Env} (h:∀ b o,E.imm b=some o→F.imm b=some o) {b o:Nat} {v:Value} (e:E.cell b o=some v):F.cell b o=some v:=by
 unfold Env.cell at *
 cases hb:E.imm b with
 | none=>simp [hb] at e
 | some x=>rw [h b x hb]; rw [hb] at e; exact e
mutual
theorem pure_conc {E F:Env} (h:∀ b o,E.imm b=some o→F.imm b=some o):∀ {v:AV} {u:Value},Conc E v u→pureV v=true→Conc F v u
 | _,_,.bad v,_=>.bad v
 | _,_,.un,_=>.un
 | _,_,.b x,_=>.b x
 | _,_,.i k n,_=>.i k n
 | _,_,.s bs,_=>.s bs
 | _,_,.p r o B e,k=>by simp [pureV] at k
 | _,_,.pn,_=>.pn
 | _,_,.gp g,_=>.gp g
 | _,_,.rp c b o vs e hc,k=>.rp c b o vs (fun j v hv=>pcell h (e j v hv)) (pure_concL h hc (by simpa [pureV] using k))
 | _,_,.slk r o n z c a hn e,k=>by simp [pureV] at k
 | _,_,.slu r o n z c a hn e,k=>by simp [pureV] at k
 | _,_,.sn,_=>.sn
 | _,_,.rs c n z q b o vs hn e hc,k=>.rs c n z q b o vs hn (fun j v hv=>pcell h (e j v hv)) (pure_concL h hc (by simpa [pureV] using k))
 | _,_,.rs0 c z a q,_=>.rs0 c z a q
 | _,_,.m r B e,k=>by simp [pureV] at k
 | _,_,.mn,_=>.mn
 | _,_,.f fn x y vx vy hf hx hy,k=>.f fn x y vx vy hf (pure_concL h hx (by simp [pureV] at k; exact k.2.1)) (pure_concL h hy (by simp [pureV] at k; exact k.2.2))
 | _,_,.yi r B e,k=>by simp [pureV,notY] at k
 | _,_,.fn0,_=>.fn0
 | _,_,.ifc t v u e,k=>.ifc t v u (pure_conc h e (by simpa [pureV] using k))
 | _,_,.if0,_=>.if0
 | _,_,.ag l vs e,k=>.ag l vs (pure_concL h e (by simpa [pureV] using k))
 | _,_,.tu l vs e,k=>.tu l vs (pure_concL h e (by simpa [pureV] using k))
 | _,_,.c r B e,k=>by simp [pureV] at k
 | _,_,.cn,_=>.cn
theorem pure_concL {E F:Env} (h:∀ b o,E.imm b=some o→F.imm b=some o):∀ {v:List AV} {u:List Value},ConcL E v u→pureL v=true→ConcL F v u
 | _,_,.nil,_=>.nil
 | _,_,.cons v l u us e t,k=>.cons v l u us (pure_conc h e (by simp [pureL] at k; exact k.1)) (pure_concL h t (by simp [pureL] at k; exact k.2))
end
def rdL (f:AV→Option AV):List AV→Option (List AV)
 | []=>some []
 | v :: l=>match f v with
  | some v'=>match rdL f l with
   | some l'=>some (v' :: l')
   | none=>none
  | none=>none
def okR (X:List Nat) (st:St) (r g:Nat):Bool:=decide (r < st.next) && decide (g < st.next) && decide (r ∉ X) && decide (g ∉ X)
def ceX (X:List Nat) (st:St) (r:Nat):Option (List AV) :=
 match st.ce r with
 | some (l,g,_)=>if okR X st r g=true then some l else none
 | none=>none
def rdV (X:List Nat):Nat→St→AV→Option AV
 | 0,_,_=>none
 | d+1,st,v=>if pureV v=true then some v else match v with
  | .p r o=>match ceX X st r with
   | some l=>match rdL (rdV X d st) (l.drop o) with
    | some c=>some (.rp c)
    | none=>none
   | none=>none
  | .sl r o n z _=>if n=0 then some (.rs [] 0 z) else match ceX X st r with
   | some l=>match rdL (rdV X d st) ((l.drop o).take (n * z)) with
    | some c=>some (.rs c n z)
    | none=>none
   | none=>none
  | .ag l=>match rdL (rdV X d st) l with
   | some l'=>some (.ag l')
   | none=>none
  | .tu l=>match rdL (rdV X d st) l with
   | some l'=>some (.tu l')
   | none=>none
  | _=>none
theorem rdL_length {f:AV→Option AV}:∀ {l l':List AV},rdL f l=some l'→l'.length=l.length
 | [],l',h=>by cases h; rfl
 | v :: l,l',h=>by
  simp only [rdL] at h
  cases hv:f v with
  | none=>rw [hv] at h; cases h
  | some v' =>
   rw [hv] at h
   cases hl:rdL f l with
   | none=>rw [hl] at h; cases h
   | some l2 =>
    rw [hl] at h
    cases h
    simp [rdL_length hl]
theorem rdL_conc {f:AV→Option AV} {E F:Env} (hf:∀ v u v',Conc E v u→f v=some v'→Conc F v' u):∀ {l l':List AV} {us:List Value},ConcL E l us→rdL f l=some l'→ConcL F l' us
 | [],l',us,hc,h=>by cases h; cases hc; exact .nil
 | v :: l,l',us,hc,h=>by
  simp only [rdL] at h
  cases hc with
  | cons _ _ u us h1 h2 =>
  cases hv:f v with
  | none=>rw [hv] at h; cases h
  | some v' =>
   rw [hv] at h
   cases hl:rdL f l with
   | none=>rw [hl] at h; cases h
   | some l2 =>
    rw [hl] at h
    cases h
    exact .cons _ _ _ _ (hf _ _ _ h1 hv) (rdL_conc hf h2 hl)
theorem ceX_ce {X:List Nat} {st:St} {r:Nat} {l:List AV} (h:ceX X st r=some l):∃ g al,st.ce r=some (l,g,al)∧r < st.next∧g < st.next∧r ∉ X∧g ∉ X:=by
 unfold ceX at h
 cases hc:st.ce r with
 | none=>rw [hc] at h; cases h
 | some p =>
  obtain ⟨l',g,al⟩:=p
  rw [hc] at h
  simp only at h
  split at h
  ·rename_i hk
   cases h
   simp only [okR,Bool.and_eq_true,decide_eq_true_eq] at hk
   exact ⟨g,al,rfl,hk.1.1.1,hk.1.1.2,hk.1.2,hk.2⟩
  ·cases h
theorem ceX_of {X:List Nat} {st:St} {r g:Nat} {l:List AV} {al:List Nat} (h:st.ce r=some (l,g,al)) (h1:r < st.next) (h2:g < st.next) (h3:r ∉ X) (h4:g ∉ X):ceX X st r=some l:=by
 unfold ceX
 rw [h]
 simp [okR,h1,h2,h3,h4]
theorem row_cells {E:Env} {H:Array Obj} {st:St} (hr:Rel E H st) {r g:Nat} {l:List AV} {al:List Nat} (hc:st.ce r=some (l,g,al)) {B:Blk} (hB:E.phi r=some B) :
  ∃ vs:List Value,ConcL E l vs∧∀ (top j:Nat) (v:Value),vs[j]? = some v→(inEnv H top).cell B.b (j+B.d)=some v:=by
 obtain ⟨ha,-,-,-⟩:=St.ce_spec hc
 obtain ⟨B',hB',cs,t,fz,h1,h2,h3,h4,h5⟩:=hr.rows _ _ ha
 rw [hB] at hB'; cases hB'
 refine ⟨_,h5,fun top j v hj=>?_⟩
 unfold Env.cell inEnv
 simp only [h1]
 rw [List.getElem?_take] at hj
 split at hj
 ·rw [List.getElem?_drop] at hj
  rw [← hj,Array.getElem?_toList,Nat.add_comm]
 ·cases hj
theorem rdV_conc {E:Env} {H:Array Obj} {st:St} {X:List Nat} (hr:Rel E H st) (top:Nat):∀ (d:Nat) (v:AV) (u:Value) (v':AV),Conc E v u→rdV X d st v=some v'→Conc (inEnv H top) v' u:=by
 intro d
 induction d with
 | zero=>intro v u v' _ h; cases h
 | succ d ih =>
  intro v u v' hc h
  unfold rdV at h
  by_cases hp:pureV v=true
  ·rw [if_pos hp] at h
   cases h
   exact pure_conc (fun b o hb=>hr.imm b o hb) hc hp
  ·rw [if_neg hp] at h
   cases v <;> simp only [] at h <;> first | (cases h; done) | skip
   case p r o =>
    cases hl:ceX X st r with
    | none=>rw [hl] at h; cases h
    | some l =>
     rw [hl] at h
     simp only at h
     cases hk:rdL (rdV X d st) (l.drop o) with
     | none=>rw [hk] at h; cases h
     | some c =>
      rw [hk] at h
      cases h
      obtain ⟨g,al,hce,-⟩:=ceX_ce hl
      cases hc with
      | p _ _ B hB =>
      obtain ⟨vs,k1,k2⟩:=row_cells hr hce hB
      refine .rp c B.b (o+B.d) (vs.drop o) (fun j v hv=>?_) (rdL_conc ih (k1.drop o) hk)
      rw [List.getElem?_drop] at hv
      have:=k2 top (o+j) v hv
      rwa [show o+B.d+j=o+j+B.d by omega]
   case sl r o n z c =>
    by_cases hn:n=0
    ·subst hn
     rw [if_pos rfl] at h
     cases h
     cases hc with
     | slk _ _ _ _ c a _ _=>exact .rs0 _ _ _ _
     | slu _ _ _ _ c a _ _=>exact .rs0 _ _ _ _
    ·rw [if_neg hn] at h
     cases hl:ceX X st r with
     | none=>rw [hl] at h; cases h
     | some l =>
      rw [hl] at h
      simp only at h
      cases hk:rdL (rdV X d st) ((l.drop o).take (n * z)) with
      | none=>rw [hk] at h; cases h
      | some c' =>
       rw [hk] at h
       cases h
       obtain ⟨g,al,hce,-⟩:=ceX_ce hl
       have key:∀ (B:Blk),E.phi r=some B→∀ k,n≤k→Conc (inEnv H top) (.rs c' n z) (.slice (some ⟨B.b,o+B.d,none⟩) n k):=by
        intro B hB k hnk
        obtain ⟨vs,k1,k2⟩:=row_cells hr hce hB
        refine .rs c' n z k B.b (o+B.d) ((vs.drop o).take (n * z)) hnk (fun j v hv=>?_) (rdL_conc ih ((k1.drop o).take (n * z)) hk)
        rw [List.getElem?_take] at hv
        split at hv
        ·rw [List.getElem?_drop] at hv
         have:=k2 top (o+j) v hv
         rwa [show o+B.d+j=o+j+B.d by omega]
        ·cases hv
       cases hc with
       | slk _ _ _ _ q a hnq hB =>
        rcases hB with h0 | ⟨B,hB,rfl⟩
        ·omega
        ·exact key B hB _ hnq
       | slu _ _ _ _ q a hnq hB =>
        obtain ⟨B,hB,h0 | rfl,-⟩:=hB
        ·omega
        ·exact key B hB _ hnq
   case ag l =>
    cases hk:rdL (rdV X d st) l with
    | none=>rw [hk] at h; cases h
    | some c =>
     rw [hk] at h
     cases h
     cases hc with
     | ag _ vs e=>exact .ag _ _ (rdL_conc ih e hk)
   case tu l =>
    cases hk:rdL (rdV X d st) l with
    | none=>rw [hk] at h; cases h
    | some c =>
     rw [hk] at h
     cases h
     cases hc with
     | tu _ vs e=>exact .tu _ _ (rdL_conc ih e hk)
theorem rdL_mono {f g:AV→Option AV} (hf:∀ v v',f v=some v'→g v=some v'):∀ {l l':List AV},rdL f l=some l'→rdL g l=some l'
 | [],l',h=>h
 | v :: l,l',h=>by
  simp only [rdL] at h ⊢
  cases hv:f v with
  | none=>rw [hv] at h; cases h
  | some v' =>
   rw [hv] at h
   rw [hf _ _ hv]
   cases hl:rdL f l with
   | none=>rw [hl] at h; cases h
   | some l2 =>
    rw [hl] at h
    rw [rdL_mono hf hl]
    exact h
theorem rdV_step {X X':List Nat} {st st':St} (hce:∀ r l,ceX X st r=some l→ceX X' st' r=some l):∀ (d d':Nat),d≤d'→∀ (v v':AV),rdV X d st v=some v'→rdV X' d' st' v=some v':=by
 intro d
 induction d with
 | zero=>intro d' _ v v' h; cases h
 | succ d ih =>
  intro d' hd v v' h
  obtain ⟨d',rfl⟩:∃ e,d'=e+1:=⟨d' - 1,by omega⟩
  have ih':=ih d' (by omega)
  unfold rdV at h ⊢
  by_cases hp:pureV v=true
  ·rw [if_pos hp] at h ⊢; exact h
  ·rw [if_neg hp] at h ⊢
   cases v <;> simp only [] at h ⊢ <;> first | (cases h; done) | skip
   case p r o =>
    cases hl:ceX X st r with
    | none=>rw [hl] at h; cases h
    | some l =>
     rw [hl] at h
     rw [hce _ _ hl]
     simp only at h ⊢
     cases hk:rdL (rdV X d st) (l.drop o) with
     | none=>rw [hk] at h; cases h
     | some c=>rw [hk] at h; rw [rdL_mono ih' hk]; exact h
   case sl r o n z c =>
    by_cases hn:n=0
    ·rw [if_pos hn] at h ⊢; exact h
    ·rw [if_neg hn] at h ⊢
     cases hl:ceX X st r with
     | none=>rw [hl] at h; cases h
     | some l =>
      rw [hl] at h
      rw [hce _ _ hl]
      simp only at h ⊢
      cases hk:rdL (rdV X d st) ((l.drop o).take (n * z)) with
      | none=>rw [hk] at h; cases h
      | some c=>rw [hk] at h; rw [rdL_mono ih' hk]; exact h
   case ag l =>
    cases hk:rdL (rdV X d st) l with
    | none=>rw [hk] at h; cases h
    | some c=>rw [hk] at h; rw [rdL_mono ih' hk]; exact h
   case tu l =>
    cases hk:rdL (rdV X d st) l with
    | none=>rw [hk] at h; cases h
    | some c=>rw [hk] at h; rw [rdL_mono ih' hk]; exact h
theorem ceX_keep {X A B:List Nat} {st st':St} (k:Kp A B st st') (h1:∀ x,x ∈ A→x ∈ X) (h2:∀ x,x ∈ B→x ∈ X) {r:Nat} {l:List AV} (h:ceX X st r=some l):ceX X st' r=some l:=by
 obtain ⟨g,al,hc,r1,g1,r2,g2⟩:=ceX_ce h
 exact ceX_of (k.ce hc r1 g1 (fun hh=>r2 (h1 _ hh)) (fun hh=>g2 (h2 _ hh))) (Nat.lt_of_lt_of_le r1 k.next) (Nat.lt_of_lt_of_le g1 k.next) r2 g2
theorem ceX_sub {X X':List Nat} {st:St} (hs:∀ x,x ∈ X'→x ∈ X) {r:Nat} {l:List AV} (h:ceX X st r=some l):ceX X' st r=some l:=by
 obtain ⟨g,al,hc,r1,g1,r2,g2⟩:=ceX_ce h
 exact ceX_of hc r1 g1 (fun hh=>r2 (hs _ hh)) (fun hh=>g2 (hs _ hh))
def Rds (X:List Nat) (st:St) (v v':AV):Prop:=∃ d,rdV X d st v=some v'
def RdsL (X:List Nat) (st:St) (l l':List AV):Prop:=∃ d,rdL (rdV X d st) l=some l'
section
variable {X X' A B : List Nat} {st st' : St} {v v' : AV} {l l' : List AV}
theorem Rds.keep (h:Rds X st v v') (k:Kp A B st st') (h1:∀ x,x ∈ A→x ∈ X) (h2:∀ x,x ∈ B→x ∈ X):Rds X st' v v':=by
 obtain ⟨d,h⟩:=h
 exact ⟨d,rdV_step (fun r l=>ceX_keep k h1 h2) d d (Nat.le_refl _) _ _ h⟩
theorem Rds.sub (h:Rds X st v v') (hs:∀ x,x ∈ X'→x ∈ X):Rds X' st v v':=by
 obtain ⟨d,h⟩:=h
 exact ⟨d,rdV_step (fun r l=>ceX_sub hs) d d (Nat.le_refl _) _ _ h⟩
theorem RdsL.keep (h:RdsL X st l l') (k:Kp A B st st') (h1:∀ x,x ∈ A→x ∈ X) (h2:∀ x,x ∈ B→x ∈ X):RdsL X st' l l':=by
 obtain ⟨d,h⟩:=h
 exact ⟨d,rdL_mono (rdV_step (fun r l=>ceX_keep k h1 h2) d d (Nat.le_refl _)) h⟩
theorem RdsL.sub (h:RdsL X st l l') (hs:∀ x,x ∈ X'→x ∈ X):RdsL X' st l l':=by
 obtain ⟨d,h⟩:=h
 exact ⟨d,rdL_mono (rdV_step (fun r l=>ceX_sub hs) d d (Nat.le_refl _)) h⟩
theorem Rds.pure (h:pureV v=true):Rds X st v v:=⟨1,by unfold rdV; rw [if_pos h]⟩
theorem RdsL.nil:RdsL X st [] []:=⟨0,rfl⟩
theorem RdsL.cons (h:Rds X st v v') (k:RdsL X st l l'):RdsL X st (v :: l) (v' :: l'):=by
 obtain ⟨d,h⟩:=h
 obtain ⟨e,k⟩:=k
 refine ⟨max d e,?_⟩
 simp only [rdL]
 rw [rdV_step (fun r l h=>h) d (max d e) (by omega) _ _ h,rdL_mono (rdV_step (fun r l h=>h) e (max d e) (by omega)) k]
theorem RdsL.pure:∀ {l:List AV},pureL l=true→RdsL X st l l
 | [],_=>.nil
 | v :: l,h=>by
  simp only [pureL,Bool.and_eq_true] at h
  exact .cons (.pure h.1) (.pure h.2)
theorem RdsL.append {m m':List AV} (h:RdsL X st l l') (k:RdsL X st m m'):RdsL X st (l++m) (l'++m'):=by
 obtain ⟨d,h⟩:=h
 revert l'
 induction l with
 | nil=>intro l' h; cases h; exact k
 | cons v l ih =>
  intro l' h
  simp only [rdL] at h
  cases hv:rdV X d st v with
  | none=>rw [hv] at h; cases h
  | some v' =>
   rw [hv] at h
   cases hl:rdL (rdV X d st) l with
   | none=>rw [hl] at h; cases h
   | some l2 =>
    rw [hl] at h
    cases h
    exact .cons ⟨d,hv⟩ (ih hl)
theorem Rds.ag (h:RdsL X st l l'):Rds X st (.ag l) (.ag l'):=by
 obtain ⟨d,h⟩:=h
 refine ⟨d+1,?_⟩
 unfold rdV
 by_cases hp:pureV (.ag l)=true
 ·have e:l'=l:=by
   have hp':pureL l=true:=by simpa [pureV] using hp
   clear hp
   revert l'
   induction l with
   | nil=>intro l' h; cases h; rfl
   | cons v l ih =>
    intro l' h
    simp only [pureL,Bool.and_eq_true] at hp'
    simp only [rdL] at h
    cases d with
    | zero=>simp [rdV] at h
    | succ d =>
    have:rdV X (d+1) st v=some v:=by unfold rdV; rw [if_pos hp'.1]
    rw [this] at h
    simp only at h
    cases hl:rdL (rdV X (d+1) st) l with
    | none=>rw [hl] at h; cases h
    | some l2=>rw [hl] at h; cases h; rw [ih hp'.2 hl]
  rw [if_pos hp,e]
 ·rw [if_neg hp]
  simp only [h]
theorem Rds.ptr {r g:Nat} {al:List Nat} (hc:st.ce r=some (l,g,al)) (h1:r < st.next) (h2:g < st.next) (h3:r ∉ X) (h4:g ∉ X) (h:RdsL X st l l'):Rds X st (.p r 0) (.rp l'):=by
 obtain ⟨d,h⟩:=h
 refine ⟨d+1,?_⟩
 unfold rdV
 rw [if_neg (by simp [pureV])]
 simp only [ceX_of hc h1 h2 h3 h4,List.drop_zero,h]
theorem Rds.slice {r g n z:Nat} {c:Option Nat} {al:List Nat} (hc:st.ce r=some (l,g,al)) (hl:n * z=l.length) (h1:r < st.next) (h2:g < st.next) (h3:r ∉ X) (h4:g ∉ X) (h:RdsL X st l l') (hn:n≠0):Rds X st (.sl r 0 n z c) (.rs l' n z):=by
 obtain ⟨d,h⟩:=h
 refine ⟨d+1,?_⟩
 unfold rdV
 rw [if_neg (by simp [pureV])]
 simp only [if_neg hn,ceX_of hc h1 h2 h3 h4,List.drop_zero,hl,List.take_length,h]
theorem Rds.slice0 {r o z:Nat} {c:Option Nat}:Rds X st (.sl r o 0 z c) (.rs [] 0 z):=⟨1,by unfold rdV; rw [if_neg (by simp [pureV])]; simp⟩
end
open Classical in
def rdA (st:St) (xs:List AV):Option (List AV):=if h:∃ ys,RdsL [] st xs ys then some h.choose else none
theorem rdA_spec {st:St} {xs ys:List AV} (h:rdA st xs=some ys):RdsL [] st xs ys:=by
 unfold rdA at h
 split at h
 ·rename_i hh
  cases h
  exact hh.choose_spec
 ·cases h
theorem RdsL.uniq {X:List Nat} {st:St} {l a b:List AV} (h:RdsL X st l a) (k:RdsL X st l b):a=b:=by
 obtain ⟨d,h⟩:=h
 obtain ⟨e,k⟩:=k
 have h':=rdL_mono (rdV_step (X:=X) (fun r l h=>h) d (max d e) (by omega)) h
 have k':=rdL_mono (rdV_step (X:=X) (fun r l h=>h) e (max d e) (by omega)) k
 rw [h'] at k'
 exact Option.some.inj k'
theorem rdA_of {X:List Nat} {st:St} {xs ys:List AV} (h:RdsL X st xs ys):rdA st xs=some ys:=by
 have h':RdsL [] st xs ys:=h.sub (by simp)
 unfold rdA
 have hh:∃ ys,RdsL [] st xs ys:=⟨ys,h'⟩
 rw [dif_pos hh]
 exact congrArg some (hh.choose_spec.uniq h')
def plainV:AV→Bool
 | .b _=>true
 | .i _ _=>true
 | .s _=>true
 | _=>false
theorem plain_conc {E F:Env} {v:AV} {u:Value} (h:Conc E v u) (hp:plainV v=true):Conc F v u:=by
 cases h <;> first | (cases hp; done) | constructor
def byC (S0 S:Self) (f:FuncId) (xs:List AV) (st:St):Res :=
 match rdA st xs with
 | some ys=>match S0.call f ys st0 with
  | some (v,_)=>if plainV v=true then some (v,st) else S.call f xs st
  | none=>S.call f xs st
 | none=>S.call f xs st
def byF (G:FuncId→Bool) (S0 S:Self):Self:=⟨fun f xs st=>if G f=true then byC S0 S f xs st else S.call f xs st,S.code,S.dcall⟩
def byV (G:FuncId→Bool) (S:Self):Self:=byF G S S
theorem byF_in {G:FuncId→Bool} {S0 S:Self} {f:FuncId} {xs ys:List AV} {X:List Nat} {st s1:St} {v:AV} (hG:G f=true) (hx:RdsL X st xs ys) (hc:S0.call f ys st0=some (v,s1)) (hv:plainV v=true):(byF G S0 S).call f xs st=some (v,st):=by
 show (if G f=true then byC S0 S f xs st else S.call f xs st)=_
 rw [if_pos hG]
 unfold byC
 rw [rdA_of hx]
 simp only [hc,if_pos hv]
theorem byF_out {G:FuncId→Bool} {S0 S:Self} {f:FuncId} {xs:List AV} {st:St} (hG:G f=false):(byF G S0 S).call f xs st=S.call f xs st:=by
 show (if G f=true then byC S0 S f xs st else S.call f xs st)=_
 rw [if_neg (by simp [hG])]
theorem byF_ok {G:FuncId→Bool} (S0 S:Self) (hS0:SelfOK P S0) (hS:SelfOK P S):SelfOK P (byF G S0 S):=by
 refine ⟨hS.ng,hS.mixed,⟨fun f xs st=>?_,hS.up.code,hS.up.dcall⟩,fun {E w st st' f xs us v} hr hc h hn=>?_,fun {E w st nt c t a b} k hb hr ht hm hl=>hS.code k hb hr ht hm hl,hS.dcall⟩
 ·unfold byF
  simp only
  split
  ·unfold byC
   split
   ·split
    ·split
     ·exact up_same
     ·exact hS.up.call f xs st
    ·exact hS.up.call f xs st
   ·exact hS.up.call f xs st
  ·exact hS.up.call f xs st
 ·unfold byF at h
  simp only at h
  split at h
  case isFalse=>exact hS.call hr hc h hn
  unfold byC at h
  cases hx:rdA st xs with
  | none=>rw [hx] at h; exact hS.call hr hc h hn
  | some ys =>
   rw [hx] at h
   simp only at h
   cases hv:S0.call f ys st0 with
   | none=>rw [hv] at h; exact hS.call hr hc h hn
   | some p =>
    obtain ⟨v1,s1⟩:=p
    rw [hv] at h
    simp only at h
    by_cases hp:plainV v1=true
    ·rw [if_pos hp] at h
     cases h
     obtain ⟨d,hd⟩:=rdA_spec hx
     have hc':ConcL (inEnv w.heap s1.next) ys us:=rdL_conc (fun v u v' h1 h2=>rdV_conc hr s1.next d v u v' h1 h2) hc hd
     obtain ⟨E',w',cv,h1,h2,h3⟩:=hS0.call (inEnv_rel w.heap s1.next) hc' hv (Nat.le_refl _)
     refine ⟨E,w',cv,h1,⟨Step.grow hr h2.fr.size (fun i hi=>h2.fr.keep i hi ?_),h2.os,h2.out⟩,plain_conc h3 hp⟩
     rintro ⟨r,row,B,ha,_,_⟩
     have:=Rel.alive_get ha
     rw [st0_get] at this; cases this
    ·rw [if_neg hp] at h
     exact hS.call hr hc h hn
theorem byV_ok {G:FuncId→Bool} (S:Self) (hS:SelfOK P S):SelfOK P (byV G S):=byF_ok S S hS hS
end
end Go.Ev
namespace Go.Ev
noncomputable section
abbrev Str:=List Nat
def txOf:AV→Str
 | .s l=>l
 | _=>[]
def intOf:AV→Int
 | .i _ n=>n
 | _=>0
def txsOf:AV→List Str
 | .rs c _ _=>c.map txOf
 | _=>[]
def IsNm (v:AV):Prop:=∃ l:List Str,IsSl v (l.map .s)∧l.length≤9223372036854775807
theorem txsOf_sl {v:AV} {l:List Str} (h:IsSl v (l.map .s)):txsOf v=l:=by
 rcases h with ⟨rfl,h⟩ | h
 ·have:l=[]:=by simpa using h
  rw [this]; rfl
 ·rw [h]
  show (l.map AV.s).map txOf=l
  rw [List.map_map]
  exact List.map_id'' (fun _=>rfl) l
theorem IsNm.sl {v:AV} (h:IsNm v):IsSl v ((txsOf v).map .s)∧(txsOf v).length≤9223372036854775807:=by
 obtain ⟨l,h1,h2⟩:=h
 rw [txsOf_sl h1]; exact ⟨h1,h2⟩
theorem pure_strs:∀ l:List Str,pureL (l.map .s)=true
 | []=>rfl
 | s :: l=>by simp [pureL,pureV,pure_strs l]
theorem pureL_append:∀ {l m:List AV},pureL (l++m)=(pureL l && pureL m)
 | [],m=>by simp [pureL]
 | v :: l,m=>by simp [pureL,pureL_append,Bool.and_assoc]
theorem pureL_drop:∀ {l:List AV} {n:Nat},pureL l=true→pureL (l.drop n)=true
 | [],n,h=>by simpa using h
 | v :: l,0,h=>h
 | v :: l,n+1,h=>by
  simp only [pureL,Bool.and_eq_true] at h
  simpa using pureL_drop h.2
theorem IsSl.pure {v:AV} {l:List AV} (h:IsSl v l) (hl:pureL l=true):pureV v=true:=by
 rcases h with ⟨rfl,-⟩ | rfl
 ·rfl
 ·simpa [pureV] using hl
theorem IsNm.pure {v:AV} (h:IsNm v):pureV v=true:=h.sl.1.pure (pure_strs _)
def preOK:Nat→List AV→Prop
 | 0,p=>p=[]
 | 1,p=>∃ s:Str,p=[.s s]
 | _,p=>∃ (k:Int) (n:Str) (m:Int) (vs:AV),p=[.i .i64 k,.s n,.i .i64 m,vs]∧IsNm vs
def preLen:Nat→Nat
 | 0=>0
 | 1=>1
 | _=>4
theorem preOK.len {m:Nat} {p:List AV} (h:preOK m p):p.length=preLen m:=by
 unfold preOK at h
 split at h
 ·rw [h]; rfl
 ·obtain ⟨s,rfl⟩:=h; rfl
 ·rename_i h0 h1
  obtain ⟨k,n,m',vs,rfl,-⟩:=h
  unfold preLen
  split
  ·exact absurd rfl h0
  ·exact absurd rfl h1
  ·rfl
theorem preOK.sc {m:Nat} {p:List AV} (h:preOK m p):allSc p=true:=by
 unfold preOK at h
 split at h
 ·rw [h]; rfl
 ·obtain ⟨s,rfl⟩:=h; rfl
 ·obtain ⟨k,n,m',vs,rfl,hv⟩:=h
  have:isSc vs=true:=by
   rcases hv.sl.1 with ⟨h,-⟩ | h <;> rw [h] <;> rfl
  simp [this]
theorem preOK.pure {m:Nat} {p:List AV} (h:preOK m p):pureL p=true:=by
 unfold preOK at h
 split at h
 ·rw [h]; rfl
 ·obtain ⟨s,rfl⟩:=h; rfl
 ·obtain ⟨k,n,m',vs,rfl,hv⟩:=h
  simp [pureL,pureV,hv.pure]
mutual
def Ex.Ty:Ex→Prop
 | .mk k _ _ ps b a l=>(-9223372036854775808≤k∧k≤9223372036854775807)∧IsNm ps∧b.Ty 1∧a.Ty 0∧l.Ty 4
def ExL.Ty:ExL→Nat→Prop
 | .nil _,_=>True
 | .cons p x l,m=>preOK m p∧x.Ty∧l.Ty m
end
theorem ExL.ty_list:∀ {l:ExL} {m:Nat},l.Ty m→∀ p ∈ l.list,preOK m p.1∧p.2.Ty
 | .nil _,_,_,p,hp=>by simp [ExL.list] at hp
 | .cons q x l,m,h,p,hp=>by
  simp only [ExL.Ty] at h
  rcases List.mem_cons.1 hp with rfl | hp
  ·exact ⟨h.1,h.2.1⟩
  ·exact ExL.ty_list h.2.2 p hp
theorem ExL.Ty.pre {l:ExL} {m:Nat} (h:l.Ty m):l.pre (preLen m):=fun p hp=>(ExL.ty_list h p hp).1.len
mutual
theorem Ex.Ty.wf:∀ {x:Ex},x.Ty→x.Wf
 | .mk k nm num ps b a l,h=>by
  simp only [Ex.Ty] at h
  simp only [Ex.Wf]
  refine ⟨h.1,⟨h.2.2.1.pre,h.2.2.2.1.pre,h.2.2.2.2.pre⟩,⟨ExL.Ty.wf h.2.2.1,ExL.Ty.wf h.2.2.2.1,ExL.Ty.wf h.2.2.2.2⟩,?_⟩
  rcases h.2.1.sl.1 with ⟨h,-⟩ | h <;> rw [h] <;> rfl
theorem ExL.Ty.wf:∀ {l:ExL} {m:Nat},l.Ty m→l.Wf
 | .nil _,_,_=>by simp only [ExL.Wf]
 | .cons p x l,m,h=>by
  simp only [ExL.Ty] at h
  simp only [ExL.Wf]
  exact ⟨⟨Ex.Ty.wf h.2.1,h.1.sc⟩,ExL.Ty.wf h.2.2⟩
end
mutual
theorem Ex.cells_pure:∀ {x:Ex},x.Ty→pureL x.cells=true
 | .mk k nm num ps b a l,h=>by
  simp only [Ex.Ty] at h
  simp [Ex.cells,pureL,pureV,h.2.1.pure,ExL.slice_pure h.2.2.1 8,ExL.slice_pure h.2.2.2.1 7,ExL.slice_pure h.2.2.2.2 11]
theorem ExL.flat_pure:∀ {l:ExL} {m:Nat},l.Ty m→pureL l.flat=true
 | .nil _,_,_=>by simp [ExL.flat,pureL]
 | .cons p x l,m,h=>by
  simp only [ExL.Ty] at h
  simp [ExL.flat,pureL_append,h.1.pure,Ex.cells_pure h.2.1,ExL.flat_pure h.2.2]
theorem ExL.slice_pure:∀ {l:ExL} {m:Nat},l.Ty m→∀ z,pureV (l.slice z)=true
 | .nil f,_,_,z=>by cases f <;> simp [ExL.slice,pureV,pureL]
 | .cons p x l,m,h,z=>by
  simp only [ExL.Ty] at h
  simp [ExL.slice,pureV,pureL_append,h.1.pure,Ex.cells_pure h.2.1,ExL.flat_pure h.2.2]
end
def named (s:Str):Bool:=decide (1≤s.length) && (decide (s.length≤65536) && s.all fun c=>decide (33≤c) && decide (c≤126))
def namesOK (l:List Str):Bool:=l.all named && decide l.Nodup
def bname (p:List AV × Ex):Str:=txOf (p.1.headD .un)
def ExL.names (l:ExL):List Str:=l.list.map bname
structure AltH where
 k:Int
 n:Str
 m:Int
 vs:List Str
def altH (p:List AV × Ex):AltH:=⟨intOf (p.1.getD 0 .un),txOf (p.1.getD 1 .un),intOf (p.1.getD 2 .un),txsOf (p.1.getD 3 .un)⟩
def ExL.heads (l:ExL):List AltH:=l.list.map altH
end
end Go.Ev
