/-
  Results that a call made new, and hands back, are for good from then on: its rows of cells are closed. · Maps keyed by texts, by what they answer.
-/
import Derived.Test.YtbemeikjepjhoaaGreatDoorS26
namespace Go.Ev
noncomputable section
variable {P : Program}
def shutT (n:Nat):Nat→Tr (List Nat)→Tr (List Nat)
 | 0,t=>t
 | k+1,t=>(shutT n k t).set (n+k) none
theorem shutT_get (n:Nat) (g:Nat):∀ (k:Nat) (t:Tr (List Nat)),(shutT n k t).get g=if n≤g∧g < n+k then none else t.get g
 | 0,t=>by rw [if_neg (by omega)]; rfl
 | k+1,t=>by
  show ((shutT n k t).set (n+k) none).get g=_
  rw [Tr.get_set,shutT_get n g k t]
  by_cases h:g=n+k
  ·rw [if_pos h,if_pos (by omega)]
  ·rw [if_neg h]
   by_cases h2:n≤g∧g < n+k
   ·rw [if_pos h2,if_pos (by omega)]
   ·rw [if_neg h2,if_neg (by omega)]
def St.shut (st:St) (n:Nat):St:=⟨st.rows,shutT n (st.next - n) st.live,st.next⟩
theorem shut_get (st:St) (n r:Nat):(st.shut n).get r=st.get r:=rfl
theorem shut_live {st:St} {n g:Nat} {al:List Nat} (h:(st.shut n).live.get g=some al):st.live.get g=some al:=by
 have:(shutT n (st.next - n) st.live).get g=some al:=h
 rw [shutT_get] at this
 split at this
 ·cases this
 ·exact this
theorem shut_low {st:St} {n g:Nat} (h:g < n):(st.shut n).live.get g=st.live.get g:=by
 show (shutT n (st.next - n) st.live).get g=_
 rw [shutT_get,if_neg (by omega)]
theorem shut_high {E:Env} {H:Array Obj} {st:St} (hr:Rel E H st) {n g:Nat} (h:n≤g):(st.shut n).live.get g=none:=by
 show (shutT n (st.next - n) st.live).get g=_
 rw [shutT_get]
 split
 ·rfl
 ·exact hr.freshG g (by omega)
theorem shut_alive {st:St} {n r:Nat} {w:Row} (h:(st.shut n).alive r=some w):st.alive r=some w:=by
 unfold St.alive at h ⊢
 rw [shut_get] at h
 split at h
 ·rename_i l g hg
  cases hl:(st.shut n).live.get g with
  | none=>rw [hl] at h; cases h
  | some al=>rw [hl] at h; rw [shut_live hl]; exact h
 ·cases h
 ·exact h
def Frozen (E:Env) (st:St) (n b:Nat):Prop:=∃ r l g B,st.alive r=some (.ce l g)∧n≤g∧E.phi r=some B∧B.b=b
open Classical in
def frzE (E:Env) (H:Array Obj) (st:St) (n:Nat):Env:=⟨fun b=>if Frozen E st n b then H[b]? else E.imm b,E.phi,E.top⟩
section
variable {E : Env} {H : Array Obj} {st : St} {n : Nat}
theorem frz_none (h:Rel E H st) {b:Nat} (hb:Frozen E st n b):E.imm b=none:=by
 obtain ⟨r,l,g,B,ha,-,hB,rfl⟩:=hb
 exact h.own _ _ _ ha hB
open Classical in
theorem frz_le (h:Rel E H st):E.le (frzE E H st n):=by
 refine ⟨fun b o hb=>?_,fun _ _ h=>h⟩
 show (if Frozen E st n b then H[b]? else E.imm b)=some o
 by_cases hf:Frozen E st n b
 ·rw [frz_none h hf] at hb; cases hb
 ·rw [if_neg hf]; exact hb
open Classical in
theorem frz_un (h:Rel E H st) {b:Nat} (hi:E.imm b=none) (hf:¬ Frozen E st n b):(frzE E H st n).imm b=none:=by
 show (if Frozen E st n b then H[b]? else E.imm b)=none
 rw [if_neg hf]; exact hi
open Classical in
theorem Step.frz (h:Rel E H st) (n:Nat):Step E (frzE E H st n) H H st (st.shut n):=by
 have hle:=frz_le (n:=n) h
 refine ⟨hle,fun b _ ho hi=>frz_un h hi fun hf=>?_,rfl,⟨fun b o hb=>?_,h.fresh,h.freshRow,fun g hg=>?_,fun g al x hg hx=>h.liveLt g al x (shut_live hg) hx,fun r row hr=>?_,fun r row B hr hB=>?_,
  fun r r' row row' B B' hr hr' hB hB' hb=>h.sep r r' row row' B B' (shut_alive hr) (shut_alive hr') hB hB' hb,fun g al hg=>?_,fun r t r0 x hx=>(h.tys r t r0 x hx).mono hle (TyKeep.refl H)⟩,Nat.le_refl _,fun _ _ _=>rfl,?_⟩
 ·obtain ⟨r,l,g,B,ha,-,hB,rfl⟩:=hf
  exact ho ⟨r,_,B,ha,hB,rfl⟩
 ·have hb:(if Frozen E st n b then H[b]? else E.imm b)=some o:=hb
  by_cases hf:Frozen E st n b
  ·rw [if_pos hf] at hb; exact hb
  ·rw [if_neg hf] at hb; exact h.imm b o hb
 ·cases hq:(st.shut n).live.get g with
  | none=>rfl
  | some al=>have:=shut_live hq; rw [h.freshG g hg] at this; cases this
 ·obtain ⟨B,hB,hR⟩:=h.rows r row (shut_alive hr)
  exact ⟨B,hB,hR.mono hle rfl⟩
 ·have hr':=shut_alive hr
  refine frz_un h (h.own r row B hr' hB) ?_
  rintro ⟨x,l,g,C,hx,hg,hC,hb⟩
  have key:∀ l',row = .ce l' g→False:=by
   rintro l' rfl
   unfold St.alive at hr
   rw [shut_get,Rel.alive_get hr'] at hr
   simp only [shut_high h hg] at hr
   cases hr
  rcases h.sep x r _ row C B hx hr' hC hB hb with rfl | ⟨g',l1,l2,h1,h2⟩
  ·rw [hx] at hr'
   exact key l (Option.some.inj hr').symm
  ·cases h1; exact key _ h2
 ·exact (h.ends g al (shut_live hg)).imp fun hxy=>hxy
 ·rintro b ⟨r,row,B,hr,hB,rfl⟩
  exact .inr ⟨r,row,B,shut_alive hr,hB,rfl⟩
end
def ceN (n:Nat) (st:St) (r:Nat):Option (List AV) :=
 match st.ce r with
 | some (l,g,_)=>if n≤g then some l else none
 | none=>none
def rdF (n:Nat):Nat→St→AV→Option AV
 | 0,_,_=>none
 | d+1,st,v=>if pureV v=true then some v else match v with
  | .p r o=>match ceN n st r with
   | some l=>match rdL (rdF n d st) (l.drop o) with
    | some c=>some (.rp c)
    | none=>none
   | none=>some (.p r o)
  | .sl r o m z c=>if m=0 then some (.rs [] 0 z) else match ceN n st r with
   | some l=>match rdL (rdF n d st) ((l.drop o).take (m * z)) with
    | some c=>some (.rs c m z)
    | none=>none
   | none=>some (.sl r o m z c)
  | .ag l=>match rdL (rdF n d st) l with
   | some l'=>some (.ag l')
   | none=>none
  | .tu l=>match rdL (rdF n d st) l with
   | some l'=>some (.tu l')
   | none=>none
  | v=>some v
theorem ceN_ce {n:Nat} {st:St} {r:Nat} {l:List AV} (h:ceN n st r=some l):∃ g al,st.ce r=some (l,g,al)∧n≤g:=by
 unfold ceN at h
 cases hc:st.ce r with
 | none=>rw [hc] at h; cases h
 | some p =>
  obtain ⟨l',g,al⟩:=p
  rw [hc] at h
  simp only at h
  split at h
  ·rename_i hk
   cases h
   exact ⟨g,al,rfl,hk⟩
  ·cases h
theorem ceN_of {n:Nat} {st:St} {r g:Nat} {l:List AV} {al:List Nat} (h:st.ce r=some (l,g,al)) (hg:n≤g):ceN n st r=some l:=by
 unfold ceN
 rw [h]
 simp [hg]
theorem frz_cells {E:Env} {H:Array Obj} {st:St} (hr:Rel E H st) {n r g:Nat} {l:List AV} {al:List Nat} (hc:st.ce r=some (l,g,al)) (hg:n≤g) {B:Blk} (hB:E.phi r=some B) :
  ∃ vs:List Value,ConcL E l vs∧∀ (j:Nat) (v:Value),vs[j]? = some v→(frzE E H st n).cell B.b (j+B.d)=some v:=by
 obtain ⟨ha,-,-,-⟩:=St.ce_spec hc
 obtain ⟨B',hB',cs,t,fz,h1,h2,h3,h4,h5⟩:=hr.rows _ _ ha
 rw [hB] at hB'; cases hB'
 refine ⟨_,h5,fun j v hj=>?_⟩
 have hf:Frozen E st n B.b:=⟨r,l,g,B,ha,hg,hB,rfl⟩
 have hi:(frzE E H st n).imm B.b=H[B.b]?:=if_pos hf
 unfold Env.cell
 rw [hi,h1]
 simp only
 rw [List.getElem?_take] at hj
 split at hj
 ·rw [List.getElem?_drop] at hj
  rw [← hj,Array.getElem?_toList,Nat.add_comm]
 ·cases hj
theorem rdF_conc {E:Env} {H:Array Obj} {st:St} {n:Nat} (hr:Rel E H st):∀ (d:Nat) (v:AV) (u:Value) (v':AV),Conc E v u→rdF n d st v=some v'→Conc (frzE E H st n) v' u:=by
 have hle:=frz_le (n:=n) hr
 intro d
 induction d with
 | zero=>intro v u v' _ h; cases h
 | succ d ih =>
  intro v u v' hc h
  unfold rdF at h
  by_cases hp:pureV v=true
  ·rw [if_pos hp] at h
   cases h
   exact hc.mono hle
  ·rw [if_neg hp] at h
   cases v <;> simp only [] at h <;> first | (cases h; exact hc.mono hle) | skip
   case p r o =>
    cases hl:ceN n st r with
    | none=>rw [hl] at h; cases h; exact hc.mono hle
    | some l =>
     rw [hl] at h
     simp only at h
     cases hk:rdL (rdF n d st) (l.drop o) with
     | none=>rw [hk] at h; cases h
     | some c =>
      rw [hk] at h
      cases h
      obtain ⟨g,al,hce,hg⟩:=ceN_ce hl
      cases hc with
      | p _ _ B hB =>
      obtain ⟨vs,k1,k2⟩:=frz_cells hr hce hg hB
      refine .rp c B.b (o+B.d) (vs.drop o) (fun j v hv=>?_) (rdL_conc ih (k1.drop o) hk)
      rw [List.getElem?_drop] at hv
      have:=k2 (o+j) v hv
      rwa [show o+B.d+j=o+j+B.d by omega]
   case sl r o m z c =>
    by_cases hn:m=0
    ·subst hn
     rw [if_pos rfl] at h
     cases h
     cases hc with
     | slk _ _ _ _ c a _ _=>exact .rs0 _ _ _ _
     | slu _ _ _ _ c a _ _=>exact .rs0 _ _ _ _
    ·rw [if_neg hn] at h
     cases hl:ceN n st r with
     | none=>rw [hl] at h; cases h; exact hc.mono hle
     | some l =>
      rw [hl] at h
      simp only at h
      cases hk:rdL (rdF n d st) ((l.drop o).take (m * z)) with
      | none=>rw [hk] at h; cases h
      | some c' =>
       rw [hk] at h
       cases h
       obtain ⟨g,al,hce,hg⟩:=ceN_ce hl
       have key:∀ (B:Blk),E.phi r=some B→∀ k,m≤k→Conc (frzE E H st n) (.rs c' m z) (.slice (some ⟨B.b,o+B.d,none⟩) m k):=by
        intro B hB k hnk
        obtain ⟨vs,k1,k2⟩:=frz_cells hr hce hg hB
        refine .rs c' m z k B.b (o+B.d) ((vs.drop o).take (m * z)) hnk (fun j v hv=>?_) (rdL_conc ih ((k1.drop o).take (m * z)) hk)
        rw [List.getElem?_take] at hv
        split at hv
        ·rw [List.getElem?_drop] at hv
         have:=k2 (o+j) v hv
         rwa [show o+B.d+j=o+j+B.d by omega]
        ·cases hv
       cases hc with
       | slk _ _ _ _ q a hnq hB =>
        rcases hB with h0 | ⟨B,hB,rfl⟩
        ·omega
        ·exact key B hB _ hnq
       | slu _ _ _ _ q a hnq hB =>
        obtain ⟨B,hB,h0 | rfl,-⟩:=hB
        ·omega
        ·exact key B hB _ hnq
   case ag l =>
    cases hk:rdL (rdF n d st) l with
    | none=>rw [hk] at h; cases h
    | some c =>
     rw [hk] at h
     cases h
     cases hc with
     | ag _ vs e=>exact .ag _ _ (rdL_conc ih e hk)
   case tu l =>
    cases hk:rdL (rdF n d st) l with
    | none=>rw [hk] at h; cases h
    | some c =>
     rw [hk] at h
     cases h
     cases hc with
     | tu _ vs e=>exact .tu _ _ (rdL_conc ih e hk)
theorem rdF_step {n:Nat} {st:St}:∀ (d d':Nat),d≤d'→∀ (v v':AV),rdF n d st v=some v'→rdF n d' st v=some v':=by
 intro d
 induction d with
 | zero=>intro d' _ v v' h; cases h
 | succ d ih =>
  intro d' hd v v' h
  obtain ⟨d',rfl⟩:∃ e,d'=e+1:=⟨d' - 1,by omega⟩
  have ih':=ih d' (by omega)
  unfold rdF at h ⊢
  by_cases hp:pureV v=true
  ·rw [if_pos hp] at h ⊢; exact h
  ·rw [if_neg hp] at h ⊢
   cases v <;> simp only [] at h ⊢ <;> first | (exact h; done) | skip
   case p r o =>
    cases hl:ceN n st r with
    | none=>rw [hl] at h; exact h
    | some l =>
     rw [hl] at h
     simp only at h ⊢
     cases hk:rdL (rdF n d st) (l.drop o) with
     | none=>rw [hk] at h; cases h
     | some c=>rw [hk] at h; rw [rdL_mono ih' hk]; exact h
   case sl r o m z c =>
    by_cases hn:m=0
    ·rw [if_pos hn] at h ⊢; exact h
    ·rw [if_neg hn] at h ⊢
     cases hl:ceN n st r with
     | none=>rw [hl] at h; exact h
     | some l =>
      rw [hl] at h
      simp only at h ⊢
      cases hk:rdL (rdF n d st) ((l.drop o).take (m * z)) with
      | none=>rw [hk] at h; cases h
      | some c=>rw [hk] at h; rw [rdL_mono ih' hk]; exact h
   case ag l =>
    cases hk:rdL (rdF n d st) l with
    | none=>rw [hk] at h; cases h
    | some c=>rw [hk] at h; rw [rdL_mono ih' hk]; exact h
   case tu l =>
    cases hk:rdL (rdF n d st) l with
    | none=>rw [hk] at h; cases h
    | some c=>rw [hk] at h; rw [rdL_mono ih' hk]; exact h
def Fz (n:Nat) (st:St) (v v':AV):Prop:=∃ d,rdF n d st v=some v'
def FzL (n:Nat) (st:St) (l l':List AV):Prop:=∃ d,rdL (rdF n d st) l=some l'
section
variable {n : Nat} {st : St} {v v' : AV} {l l' : List AV}
theorem Fz.uniq {a b:AV} (h:Fz n st v a) (k:Fz n st v b):a=b:=by
 obtain ⟨d,h⟩:=h
 obtain ⟨e,k⟩:=k
 have h':=rdF_step d (max d e) (by omega) _ _ h
 have k':=rdF_step e (max d e) (by omega) _ _ k
 rw [h'] at k'
 exact Option.some.inj k'
theorem Fz.pure (h:pureV v=true):Fz n st v v:=⟨1,by unfold rdF; rw [if_pos h]⟩
theorem Fz.map (r:Nat):Fz n st (.m r) (.m r):=⟨1,by unfold rdF; rw [if_neg (by simp [pureV])]⟩
theorem FzL.nil:FzL n st [] []:=⟨0,rfl⟩
theorem FzL.cons (h:Fz n st v v') (k:FzL n st l l'):FzL n st (v :: l) (v' :: l'):=by
 obtain ⟨d,h⟩:=h
 obtain ⟨e,k⟩:=k
 refine ⟨max d e,?_⟩
 simp only [rdL]
 rw [rdF_step d (max d e) (by omega) _ _ h,rdL_mono (rdF_step e (max d e) (by omega)) k]
theorem FzL.pure:∀ {l:List AV},pureL l=true→FzL n st l l
 | [],_=>.nil
 | v :: l,h=>by
  simp only [pureL,Bool.and_eq_true] at h
  exact .cons (.pure h.1) (.pure h.2)
theorem FzL.same (hp:pureL l=true) (h:FzL n st l l'):l'=l:=by
 obtain ⟨d,h⟩:=h
 obtain ⟨e,k⟩:=FzL.pure (n:=n) (st:=st) hp
 have h':=rdL_mono (rdF_step d (max d e) (by omega)) h
 have k':=rdL_mono (rdF_step e (max d e) (by omega)) k
 rw [h'] at k'
 exact Option.some.inj k'
theorem Fz.ag (h:FzL n st l l'):Fz n st (.ag l) (.ag l'):=by
 obtain ⟨d,h⟩:=h
 refine ⟨d+1,?_⟩
 unfold rdF
 by_cases hp:pureV (.ag l)=true
 ·rw [if_pos hp,FzL.same (by simpa [pureV] using hp) ⟨d,h⟩]
 ·rw [if_neg hp]
  simp only [h]
theorem Fz.tu (h:FzL n st l l'):Fz n st (.tu l) (.tu l'):=by
 obtain ⟨d,h⟩:=h
 refine ⟨d+1,?_⟩
 unfold rdF
 by_cases hp:pureV (.tu l)=true
 ·rw [if_pos hp,FzL.same (by simpa [pureV] using hp) ⟨d,h⟩]
 ·rw [if_neg hp]
  simp only [h]
theorem Fz.ptr {r g:Nat} {al:List Nat} (hc:st.ce r=some (l,g,al)) (hg:n≤g) (h:FzL n st l l'):Fz n st (.p r 0) (.rp l'):=by
 obtain ⟨d,h⟩:=h
 refine ⟨d+1,?_⟩
 unfold rdF
 rw [if_neg (by simp [pureV])]
 simp only [ceN_of hc hg,List.drop_zero,h]
theorem Fz.slice {r g m z:Nat} {c:Option Nat} {al:List Nat} (hc:st.ce r=some (l,g,al)) (hl:m * z=l.length) (hg:n≤g) (h:FzL n st l l') (hn:m≠0):Fz n st (.sl r 0 m z c) (.rs l' m z):=by
 obtain ⟨d,h⟩:=h
 refine ⟨d+1,?_⟩
 unfold rdF
 rw [if_neg (by simp [pureV])]
 simp only [if_neg hn,ceN_of hc hg,List.drop_zero,hl,List.take_length,h]
theorem Fz.slice0 {r o z:Nat} {c:Option Nat}:Fz n st (.sl r o 0 z c) (.rs [] 0 z):=⟨1,by unfold rdF; rw [if_neg (by simp [pureV])]; simp⟩
end
open Classical in
def frzR (n:Nat):Res→Res
 | some (v,st)=>if h:∃ v',Fz n st v v' then some (h.choose,st.shut n) else some (v,st)
 | none=>none
def frz (G:FuncId→Bool) (S:Self):Self:=⟨fun f xs st=>if G f=true then frzR st.next (S.call f xs st) else S.call f xs st,S.code,S.dcall⟩
open Classical in
theorem frzR_of {n:Nat} {v v':AV} {st:St} (h:Fz n st v v'):frzR n (some (v,st))=some (v',st.shut n):=by
 have hh:∃ v',Fz n st v v':=⟨v',h⟩
 show (if h:∃ v',Fz n st v v' then some (h.choose,st.shut n) else some (v,st))=_
 rw [dif_pos hh,hh.choose_spec.uniq h]
open Classical in
theorem frzR_some {n:Nat} {r:Res} {v:AV} {st:St} (h:frzR n r=some (v,st)):∃ v1 st1,r=some (v1,st1)∧((Fz n st1 v1 v∧st=st1.shut n)∨(v1=v∧st1=st)):=by
 cases r with
 | none=>cases h
 | some p =>
  obtain ⟨v1,st1⟩:=p
  refine ⟨v1,st1,rfl,?_⟩
  by_cases hh:∃ v',Fz n st1 v1 v'
  ·obtain ⟨v',hv⟩:=hh
   rw [frzR_of hv] at h
   cases h
   exact .inl ⟨hv,rfl⟩
  ·have:(if h:∃ v',Fz n st1 v1 v' then some (h.choose,st1.shut n) else some (v1,st1))=some (v,st):=h
   rw [dif_neg hh] at this
   cases this
   exact .inr ⟨rfl,rfl⟩
theorem frz_in {G:FuncId→Bool} {S:Self} {f:FuncId} {xs:List AV} {st s1:St} {v v':AV} (hG:G f=true) (hc:S.call f xs st=some (v,s1)) (hv:Fz st.next s1 v v'):(frz G S).call f xs st=some (v',s1.shut st.next):=by
 show (if G f=true then frzR st.next (S.call f xs st) else S.call f xs st)=_
 rw [if_pos hG,hc,frzR_of hv]
theorem frz_out {G:FuncId→Bool} {S:Self} {f:FuncId} {xs:List AV} {st:St} (hG:G f=false):(frz G S).call f xs st=S.call f xs st:=by
 show (if G f=true then frzR st.next (S.call f xs st) else S.call f xs st)=_
 rw [if_neg (by simp [hG])]
theorem frz_ok {G:FuncId→Bool} (S:Self) (hS:SelfOK P S):SelfOK P (frz G S):=by
 refine ⟨hS.ng,hS.mixed,⟨fun f xs st=>?_,hS.up.code,hS.up.dcall⟩,fun {E w st st' f xs us v} hr hc h hn=>?_,fun {E w st nt c t a b} k hb hr ht hm hl=>hS.code k hb hr ht hm hl,hS.dcall⟩
 ·unfold frz
  simp only
  split
  ·intro v s h
   obtain ⟨v1,s1,h1,h2⟩:=frzR_some h
   have:=hS.up.call f xs st _ _ h1
   rcases h2 with ⟨-,rfl⟩ | ⟨-,rfl⟩ <;> exact this
  ·exact hS.up.call f xs st
 ·have h:(if G f=true then frzR st.next (S.call f xs st) else S.call f xs st)=some (v,st'):=h
  split at h
  case isFalse=>exact hS.call hr hc h hn
  obtain ⟨v1,s1,h1,h2⟩:=frzR_some h
  rcases h2 with ⟨⟨d,hd⟩,rfl⟩ | ⟨rfl,rfl⟩
  ·obtain ⟨E',w',cv,k1,k2,k3⟩:=hS.call hr hc h1 hn
   have s:=Step.frz k2.rel st.next
   exact ⟨_,w',cv,k1,⟨k2.toStep.trans s,k2.os,k2.out⟩,rdF_conc k2.rel d _ _ _ k3 hd⟩
  ·exact hS.call hr hc h1 hn
theorem Kp.shut {A B:List Nat} {st st':St} (k:Kp A B st st') {n:Nat} (h:st.next≤n):Kp A B st (st'.shut n) :=
 ⟨k.next,fun r h1 h2=>k.get r h1 h2,fun g h1 h2=>by rw [shut_low (Nat.lt_of_lt_of_le h1 h)]; exact k.live g h1 h2⟩
theorem pureRel {E:Env} {H:Array Obj} {st:St} (hr:Rel E H st) (top:Nat):Rel ⟨E.imm,fun _=>none,top⟩ H st0:=by
 refine ⟨hr.imm,fun _ _ _=>rfl,fun r _=>st0_get r,fun g _=>Tr.get_lf g,fun g al x h=>?_,fun r row h=>?_,fun r row B h=>?_,fun r r' row row' B B' h=>?_,fun g al h=>?_,fun r t r0 x h=>?_⟩
 ·rw [show st0.live.get g=none from Tr.get_lf g] at h; cases h
 ·have:=Rel.alive_get h; rw [st0_get] at this; cases this
 ·have:=Rel.alive_get h; rw [st0_get] at this; cases this
 ·have:=Rel.alive_get h; rw [st0_get] at this; cases this
 ·rw [show st0.live.get g=none from Tr.get_lf g] at h; cases h
 ·rw [st0_get] at h; cases h
open Classical in
def pzC (S0 S:Self) (f:FuncId) (xs:List AV) (st:St):Res :=
 match S0.call f xs st0 with
 | some (v,s1)=>if h:∃ v',Fz 0 s1 v v'∧pureV v'=true∧pureL xs=true then some (h.choose,st) else S.call f xs st
 | none=>S.call f xs st
def byZ (G:FuncId→Bool) (S0 S:Self):Self:=⟨fun f xs st=>if G f=true then pzC S0 S f xs st else S.call f xs st,S.code,S.dcall⟩
theorem byZ_in {G:FuncId→Bool} {S0 S:Self} {f:FuncId} {xs:List AV} {st s1:St} {v v':AV} (hG:G f=true) (hx:pureL xs=true) (hc:S0.call f xs st0=some (v,s1)) (hf:Fz 0 s1 v v') (hv:pureV v'=true):(byZ G S0 S).call f xs st=some (v',st):=by
 show (if G f=true then pzC S0 S f xs st else S.call f xs st)=_
 rw [if_pos hG]
 unfold pzC
 have hh:∃ v',Fz 0 s1 v v'∧pureV v'=true∧pureL xs=true:=⟨v',hf,hv,hx⟩
 simp only [hc]
 rw [dif_pos hh,hh.choose_spec.1.uniq hf]
theorem byZ_out {G:FuncId→Bool} {S0 S:Self} {f:FuncId} {xs:List AV} {st:St} (hG:G f=false):(byZ G S0 S).call f xs st=S.call f xs st:=by
 show (if G f=true then pzC S0 S f xs st else S.call f xs st)=_
 rw [if_neg (by simp [hG])]
theorem byZ_ok {G:FuncId→Bool} (S0 S:Self) (hS0:SelfOK P S0) (hS:SelfOK P S):SelfOK P (byZ G S0 S):=by
 refine ⟨hS.ng,hS.mixed,⟨fun f xs st=>?_,hS.up.code,hS.up.dcall⟩,fun {E w st st' f xs us v} hr hc h hn=>?_,fun {E w st nt c t a b} k hb hr ht hm hl=>hS.code k hb hr ht hm hl,hS.dcall⟩
 ·unfold byZ
  simp only
  split
  ·unfold pzC
   split
   ·split
    ·exact up_same
    ·exact hS.up.call f xs st
   ·exact hS.up.call f xs st
  ·exact hS.up.call f xs st
 ·have h:(if G f=true then pzC S0 S f xs st else S.call f xs st)=some (v,st'):=h
  split at h
  case isFalse=>exact hS.call hr hc h hn
  unfold pzC at h
  cases hv:S0.call f xs st0 with
  | none=>rw [hv] at h; exact hS.call hr hc h hn
  | some p =>
   obtain ⟨v1,s1⟩:=p
   rw [hv] at h
   simp only at h
   split at h
   case isFalse=>exact hS.call hr hc h hn
   rename_i hh
   obtain ⟨⟨d,hd⟩,hp,hx⟩:=hh.choose_spec
   cases h
   generalize hh.choose=v' at *
   have hr0:=pureRel hr s1.next
   have hc0:ConcL ⟨E.imm,fun _=>none,s1.next⟩ xs us:=pure_concL (E:=E) (F:=⟨E.imm,fun _=>none,s1.next⟩) (fun _ _ h=>h) hc hx
   obtain ⟨E',w',cv,k1,k2,k3⟩:=hS0.call hr0 hc0 hv (Nat.le_refl _)
   have s:=k2.toStep.trans (Step.frz k2.rel 0)
   have hcv:=rdF_conc k2.rel d _ _ _ k3 hd
   generalize frzE E' w'.heap s1 0=F at *
   have no:∀ b,¬ Owned ⟨E.imm,fun _=>none,s1.next⟩ st0 b:=by
    rintro b ⟨r,row,B,ha,_,_⟩
    have:=Rel.alive_get ha
    rw [st0_get] at this; cases this
   have keep:∀ b,b < w.heap.size→w'.heap[b]? = w.heap[b]?:=fun b hb=>k2.fr.keep b hb (no b)
   have hle:E.le ⟨F.imm,E.phi,E.top⟩:=⟨fun b o hb=>s.le.imm b o hb,fun _ _ h=>h⟩
   refine ⟨⟨F.imm,E.phi,E.top⟩,w',cv,k1,⟨⟨hle,fun b hb _ hi=>s.imm b hb (no b) hi,rfl,⟨s.rel.imm,hr.fresh,hr.freshRow,hr.freshG,hr.liveLt,fun r row h=>?_,fun r row B h hB=>?_,hr.sep,hr.ends,fun r t r0 x h=>(hr.tys r t r0 x h).mono hle (TyKeep.of_old keep)⟩,
    k2.fr.size,fun b hb _=>keep b hb,fun _ h=>.inr h⟩,k2.os,k2.out⟩,pure_conc (E:=F) (F:=⟨F.imm,E.phi,E.top⟩) (fun _ _ h=>h) hcv hp⟩
   ·obtain ⟨B,hB,hR⟩:=hr.rows r row h
    exact ⟨B,hB,hR.mono hle (keep _ hR.lt)⟩
   ·obtain ⟨B',hB',hR⟩:=hr.rows r row h
    rw [hB] at hB'; cases hB'
    exact s.imm B.b hR.lt (no _) (hr.own r row B h hB)
end
end Go.Ev
namespace Go.Ev
noncomputable section
variable {P : Program} {S : Self} {t : Tr AV} {st : St}
theorem eqS_s (x y:List Nat):eqS (.s x) (.s y)=some (decide (x=y)):=by show some (leq x y)=_; rw [leq_eq]
def strKeys:List (AV × AV × Nat)→Prop
 | []=>True
 | (k,_,_) :: l=>(∃ s,k = .s s)∧strKeys l
def look:List (AV × AV × Nat)→Str→Option AV
 | [],_=>none
 | (k,v,_) :: l,s=>if txOf k=s then some v else look l s
def MpF (st:St) (r:Nat) (f:Str→Option AV):Prop:=∃ es c,st.get r=some (.mp es c)∧strKeys es∧∀ s,look es s=f s
def upd (f:Str→Option AV) (s:Str) (v:AV):Str→Option AV:=fun x=>if x=s then some v else f x
theorem find_look:∀ {es:List (AV × AV × Nat)} {n:Nat},strKeys es→∀ s:Str,(find (.s s) es n=some none∧look es s=none)∨∃ i v,find (.s s) es n=some (some (n+i,v))∧look es s=some v ∧
   ∀ u,strKeys (setVal es i u)∧∀ x,look (setVal es i u) x=if x=s then some u else look es x
 | [],n,_,s=>.inl ⟨rfl,rfl⟩
 | (k,v,c) :: es,n,h,s=>by
  obtain ⟨⟨y,rfl⟩,h⟩:=h
  have fe:find (.s s) ((.s y,v,c) :: es) n=match some (decide (s=y)) with | some true=>some (some (n,v)) | some false=>find (.s s) es (n+1) | none=>none:=by
   simp only [find,eqS_s]
   rfl
  have le:∀ x,look ((.s y,v,c) :: es) x=if y=x then some v else look es x:=fun x=>rfl
  by_cases e:s=y
  ·right
   subst e
   refine ⟨0,v,?_,by rw [le,if_pos rfl],fun u=>⟨⟨⟨_,rfl⟩,h⟩,fun x=>?_⟩⟩
   ·rw [fe,decide_eq_true rfl]; rfl
   ·rw [le]
    show (if s=x then some u else look es x)=_
    by_cases hx:x=s
    ·subst hx; simp
    ·rw [if_neg (fun h=>hx h.symm),if_neg hx,if_neg (fun h=>hx h.symm)]
  ·rw [fe,decide_eq_false e,le,if_neg (fun h=>e h.symm)]
   rcases find_look (n:=n+1) h s with ⟨h1,h2⟩ | ⟨i,w,h1,h2,h3⟩
   ·exact .inl ⟨h1,h2⟩
   ·refine .inr ⟨i+1,w,by show find (.s s) es (n+1)=_; rw [h1,show n+1+i=n+(i+1) by omega],h2,fun u=>⟨⟨⟨_,rfl⟩,(h3 u).1⟩,fun x=>?_⟩⟩
    show (if y=x then some v else look (setVal es i u) x)=_
    rw [(h3 u).2 x,le]
    by_cases hx:x=s
    ·subst hx
     rw [if_neg (fun h=>e h.symm),if_pos rfl,if_pos rfl]
    ·rw [if_neg hx,if_neg hx]
theorem strKeys_snoc:∀ {es:List (AV × AV × Nat)} {s:Str} {v:AV} {c:Nat},strKeys es→strKeys (es++[(.s s,v,c)])
 | [],s,v,c,_=>⟨⟨s,rfl⟩,trivial⟩
 | (k,v,c) :: es,s,w,d,h=>⟨h.1,strKeys_snoc h.2⟩
theorem look_snoc:∀ {es:List (AV × AV × Nat)} {s:Str} {v:AV} {c:Nat},look es s=none→∀ x,look (es++[(.s s,v,c)]) x=if x=s then some v else look es x
 | [],s,v,c,_,x=>by
  show (if s=x then some v else none)=_
  by_cases h:x=s
  ·subst h; rfl
  ·rw [if_neg (fun e=>h e.symm),if_neg h]; rfl
 | (k,w,d) :: es,s,v,c,h,x=>by
  have h':(if txOf k=s then some w else look es s)=none:=h
  split at h'
  ·cases h'
  rename_i hk
  show (if txOf k=x then some w else look (es++[(.s s,v,c)]) x)=if x=s then some v else (if txOf k=x then some w else look es x)
  rw [look_snoc h' x]
  by_cases e:txOf k=x
  ·rw [if_pos e,if_pos e,if_neg]; intro h; exact hk (e.trans h)
  ·rw [if_neg e,if_neg e]
variable {r : Nat} {f : Str → Option AV}
theorem MpF.keep {A B:List Nat} {st':St} (h:MpF st r f) (k:Kp A B st st') (h1:r < st.next) (h2:r ∉ A):MpF st' r f:=by
 obtain ⟨es,c,h,h3⟩:=h
 exact ⟨es,c,by rw [k.get _ h1 h2]; exact h,h3⟩
theorem MpF.new (st:St):MpF (st.new (.mp [] 0)) st.next (fun _=>none):=by
 refine ⟨[],0,?_,trivial,fun _=>rfl⟩
 unfold St.get St.new
 rw [Tr.get_set,if_pos rfl]
theorem Kp.new (A B:List Nat) (w:Row):Kp A B st (st.new w):=⟨Nat.le_succ _,fun r h _=>by
 unfold St.get St.new
 rw [Tr.get_set,if_neg (by omega)],fun g h _=>rfl⟩
@[simp] theorem opH_lookup {ty:TypeId} {x ix:Operand} {ok:Bool}:opH (.lookup ty x ix ok) P S t st=give st (lookup P ty st (evO t x) (evO t ix) ok):=rfl
@[simp] theorem opH_mapUpdate {ty:TypeId} {m k x:Operand}:opH (.mapUpdate ty m k x) P S t st=done (mapUpdate P ty st (evO t m) (evO t k) (evO t x)):=rfl
@[simp] theorem opH_makeMap {ty:TypeId}:opH (.makeMap ty none) P S t st=some (.m st.next,st.new (.mp [] 0)):=rfl
structure MpTy (P:Program) (ty e:TypeId) (z:AV):Prop where
 und:∃ k,P.underlying ty=some (.map k e)∧P.underlying k=some .string
 zero:zeroOf P e=some z
theorem MpTy.fits {ty e:TypeId} {z:AV} (h:MpTy P ty e z) (s:Str):keyFits P ty (.s s)=true:=by
 obtain ⟨k,h1,h2⟩:=h.und
 unfold keyFits
 simp only [h1,h2]
theorem MpF.get {ty e:TypeId} {z:AV} (T:MpTy P ty e z) (h:MpF st r f) (s:Str):lookup P ty st (.m r) (.s s) false=some ((f s).getD z):=by
 obtain ⟨k,h1,h2⟩:=T.und
 obtain ⟨es,c,h3,h4,h5⟩:=h
 unfold lookup
 simp only [h1,T.zero,T.fits s,h3]
 rw [← h5 s]
 rcases find_look (n:=0) h4 s with ⟨h6,h7⟩ | ⟨i,v,h6,h7,-⟩
 ·rw [h6,h7]; rfl
 ·rw [h6,h7]; rfl
theorem MpF.get2 {ty e:TypeId} {z:AV} (T:MpTy P ty e z) (h:MpF st r f) (s:Str):lookup P ty st (.m r) (.s s) true=some (.tu [(f s).getD z,.b (f s).isSome]):=by
 obtain ⟨k,h1,h2⟩:=T.und
 obtain ⟨es,c,h3,h4,h5⟩:=h
 unfold lookup
 simp only [h1,T.zero,T.fits s,h3]
 rw [← h5 s]
 rcases find_look (n:=0) h4 s with ⟨h6,h7⟩ | ⟨i,v,h6,h7,-⟩
 ·rw [h6,h7]; rfl
 ·rw [h6,h7]; rfl
theorem nil_get2 {ty e:TypeId} {z:AV} (T:MpTy P ty e z) (s:Str):lookup P ty st .mn (.s s) true=some (.tu [z,.b false]):=by
 obtain ⟨k,h1,h2⟩:=T.und
 unfold lookup
 simp only [h1,T.zero,T.fits s]
 rfl
theorem MpF.set {ty e:TypeId} {z:AV} (T:MpTy P ty e z) (h:MpF st r f) (s:Str) (v:AV):∃ st',mapUpdate P ty st (.m r) (.s s) v=some st'∧MpF st' r (upd f s v)∧Kp [r] [] st st'∧st'.next=st.next:=by
 obtain ⟨es,c,h3,h4,h5⟩:=h
 unfold mapUpdate
 simp only [T.fits s,h3]
 rcases find_look (n:=0) h4 s with ⟨h6,h7⟩ | ⟨i,w,h6,h7,h8⟩
 ·rw [h6]
  refine ⟨_,rfl,⟨_,_,put_get _ _,strKeys_snoc h4,fun x=>?_⟩,.put (by simp),rfl⟩
  rw [look_snoc h7]; unfold upd; rw [h5]
 ·rw [h6,Nat.zero_add]
  refine ⟨_,rfl,⟨_,_,put_get _ _,(h8 v).1,fun x=>?_⟩,.put (by simp),rfl⟩
  rw [(h8 v).2]; unfold upd; rw [h5]
@[simp] theorem upd_self (f:Str→Option AV) (s:Str) (v:AV):upd f s v s=some v:=if_pos rfl
theorem upd_ne (f:Str→Option AV) {s x:Str} (v:AV) (h:x≠s):upd f s v x=f x:=if_neg h
theorem len_s {ty:TypeId} (h:P.underlying ty=some .string) (l:Str):bLen P st [ty] [.s l]=some (.i .i64 (l.length:Int),st):=by
 show bLen1 P st [ty] (.s l)=_
 unfold bLen1
 simp only [h]
 rfl
@[simp] theorem opH_index {ty:TypeId} {x ix:Operand}:opH (.index ty x ix) P S t st=give st (index P ty (evO t x) (evO t ix)):=rfl
theorem index_s {ty:TypeId} (h:isStr P ty=true) {l:Str} {k:Nat} (hk:k < l.length):index P ty (.s l) (.i .i64 (k:Int))=some (.i .u8 (l[k]:Int)):=by
 show @Bool.rec (fun _=>Option AV) none (byteAt k l) (isStr P ty)=_
 rw [h]
 show byteAt k l=_
 unfold byteAt
 rw [List.drop_eq_getElem_cons hk]
 rfl
theorem str_eq {ty:TypeId} {c:Bool} {x y:Str}:Go.Ev.binOp P ty c .eql (.s x) (.s y)=some (.b (decide (x=y))):=by rw [str_eql,leq_eq]
theorem str_ne {ty:TypeId} {c:Bool} {x y:Str}:Go.Ev.binOp P ty c .neq (.s x) (.s y)=some (.b (!decide (x=y))):=by
 show some (AV.b !(leq x y))=_
 rw [leq_eq]
theorem str_lt {ty:TypeId} {c:Bool} {x y:Str}:Go.Ev.binOp P ty c .lss (.s x) (.s y)=some (.b (llt x y)):=rfl
theorem str_gt {ty:TypeId} {c:Bool} {x y:Str}:Go.Ev.binOp P ty c .gtr (.s x) (.s y)=some (.b !(llt x y || leq x y)):=rfl
def Ret (o:Option (AV × St)) (v:AV):Prop:=∃ s,o=some (v,s)
@[simp] theorem ret_some {v:AV} {s:St}:Ret (some (v,s)) v:=⟨s,rfl⟩
end
end Go.Ev
namespace Go.Ev
noncomputable section
variable {P : Program} {S : Self} {t : Tr AV} {st : St}
def Any (_:St):Prop:=True
theorem any {st:St}:Any st:=trivial
@[simp] theorem evO_s (t:Tr AV) (bs:ByteArray):evO t (.const (.string bs)) = .s (bs.data.toList.map UInt8.toNat):=rfl
structure SlTy (P:Program) (ty e z:Nat):Prop where
 und:P.underlying ty=some (.slice e)
 inf:hasInfo P e=true
 sz:szOf P e=z
theorem IsSl.at {ty e:Nat} {v:AV} {l:List AV} (T:SlTy P ty e 1) (ha:isAg P e=false) (h:IsSl v l) {k:Nat} (hk:k < l.length):∃ a,indexAddr P ty v (.i .i64 (k:Int))=some a∧loadAt P e st a=some l[k]:=by
 rcases h with ⟨rfl,rfl⟩ | rfl
 ·cases hk
 ·refine ⟨_,index_rs T.und T.inf T.sz _ _ _ hk,?_⟩
  rw [Nat.mul_one,load_rp T.inf ha,List.drop_eq_getElem_cons hk]; rfl
theorem IsSl.bLen {ty e:Nat} {v:AV} {l:List AV} (T:SlTy P ty e 1) (h:IsSl v l):bLen P st [ty] [v]=some (.i .i64 (l.length:Int),st):=len_sl T.und h.len h.text
theorem IsSl.sat {ty e:Nat} {v:AV} {l:List Str} (T:SlTy P ty e 1) (ha:isAg P e=false) (h:IsSl v (l.map .s)) {k:Nat} (hk:k < l.length):∃ a,indexAddr P ty v (.i .i64 (k:Int))=some a∧∀ st,loadAt P e st a=some (.s l[k]):=by
 rcases h with ⟨rfl,h⟩ | rfl
 ·have:l=[]:=by simpa using h
  subst this; cases hk
 ·refine ⟨_,index_rs T.und T.inf T.sz _ _ _ (by simpa using hk),fun st=>?_⟩
  rw [Nat.mul_one,load_rp T.inf ha,List.drop_eq_getElem_cons (by simpa using hk)]
  simp
theorem IsSl.sLen {ty e:Nat} {v:AV} {l:List Str} (T:SlTy P ty e 1) (h:IsSl v (l.map .s)):Go.Ev.bLen P st [ty] [v]=some (.i .i64 (l.length:Int),st):=by
 have:=IsSl.bLen (st:=st) T h
 simpa using this
def IsMs (v:AV) (z:Nat) (els:List (List AV)):Prop:=((v = .sn∧els=[])∨v = .rs els.flatten els.length z)∧∀ x ∈ els,x.length=z
theorem flat_at {z:Nat}:∀ {els:List (List AV)} (_:∀ x ∈ els,x.length=z) {k:Nat} (hk:k < els.length),∃ r,els.flatten.drop (k * z)=els[k]++r
 | x :: els,h,0,_=>⟨els.flatten,by simp⟩
 | x :: els,h,k+1,hk=>by
  obtain ⟨r,hr⟩:=flat_at (fun y hy=>h y (List.mem_cons_of_mem _ hy)) (k:=k) (by simpa using hk)
  refine ⟨r,?_⟩
  have hx:=h x (List.mem_cons_self ..)
  rw [List.flatten_cons,List.drop_append,List.drop_eq_nil_of_le (by rw [hx,Nat.add_mul]; omega),List.nil_append]
  rw [show (k+1) * z - x.length=k * z by rw [hx,Nat.add_mul]; omega,hr]
  simp
theorem IsMs.at {ty e z:Nat} {v:AV} {els:List (List AV)} (T:SlTy P ty e z) (h:IsMs v z els) {k:Nat} (hk:k < els.length):∃ r,indexAddr P ty v (.i .i64 (k:Int))=some (.rp (els[k]++r)):=by
 obtain ⟨h,hz⟩:=h
 rcases h with ⟨rfl,rfl⟩ | rfl
 ·cases hk
 ·obtain ⟨r,hr⟩:=flat_at hz hk
  exact ⟨r,by rw [index_rs T.und T.inf T.sz _ _ _ hk,hr]⟩
theorem IsMs.len {v:AV} {z:Nat} {els:List (List AV)} (h:IsMs v z els):lenOf v=some els.length∧isText v=false:=by
 rcases h.1 with ⟨rfl,rfl⟩ | rfl <;> exact ⟨rfl,rfl⟩
theorem IsMs.bLen {ty e z:Nat} {v:AV} {els:List (List AV)} (T:SlTy P ty e z) (h:IsMs v z els):Go.Ev.bLen P st [ty] [v]=some (.i .i64 (els.length:Int),st):=len_sl T.und h.len.1 h.len.2
theorem load_ms {e z:Nat} (hi:hasInfo P e=true) (ha:isAg P e=true) (hz:szOf P e=z) {x r:List AV} (hx:x.length=z):loadAt P e st (.rp (x++r))=some (.ag x):=by
 rw [load_rpAg hi ha,hz,cut_zero,← hx,takeN_app]; rfl
@[simp] theorem opH_makeFunc {f:FuncId} {a b:Array Operand}:opH (.makeFunc (.func f) a b) P S t st=some (.f (.func f) (args t a.toList) (args t b.toList),st):=rfl
@[simp] theorem opH_callV {k:Tmp} {as:Array Operand} {ts:Array TypeId}:opH (.call { callee:=.value (.tmp k),args:=as,argTypes:=ts }) P S t st=callV P S st (args t as.toList) (tget t k):=rfl
@[simp] theorem callV_f {f:FuncId} {x y as:List AV}:callV P S st as (.f (.func f) x y)=callF P S f (x++(as++y)) st:=rfl
end
end Go.Ev
