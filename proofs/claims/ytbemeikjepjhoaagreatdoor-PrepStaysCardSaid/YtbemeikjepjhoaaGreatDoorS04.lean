/-
  Cells written; a slice grown in its place or in another.
-/
import Derived.Test.YtbemeikjepjhoaaGreatDoorS03
import Derived.Laws.Sem
namespace Go.Ev
noncomputable section
theorem takeN_spec:∀ {n:Nat} {l r:List AV},takeN n l=some r→r=l.take n∧n≤l.length
 | 0,l,r,h=>by simp [takeN] at h; subst h; simp
 | n+1,[],r,h=>by simp [takeN] at h
 | n+1,v :: l,r,h=>by
  simp only [takeN] at h
  split at h
  ·rename_i r' hr
   obtain ⟨rfl,hl⟩:=takeN_spec hr
   cases h
   exact ⟨by simp,by simpa using hl⟩
  ·cases h
theorem cut_spec:∀ {l:List AV} {o n:Nat} {r:List AV},cut l o n=some r→r=(l.drop o).take n∧(o+n≤l.length∨n=0)
 | l,0,n,r,h=>by
  have h':takeN n l=some r:=by cases l <;> exact h
  obtain ⟨h1,h2⟩:=takeN_spec h'
  exact ⟨by simpa using h1,.inl (by simpa using h2)⟩
 | [],o+1,n,r,h=>by
  simp only [cut,nbeq] at h
  by_cases hn:n=0
  ·subst hn; simp at h; subst h; simp
  ·simp [hn] at h
 | v :: l,o+1,n,r,h=>by
  simp only [cut] at h
  obtain ⟨h1,h2⟩:=cut_spec h
  exact ⟨by simpa using h1,by rcases h2 with h2 | h2 <;> simp <;> omega⟩
theorem cut_length {l:List AV} {o n:Nat} {r:List AV} (h:cut l o n=some r):r.length=n:=by
 obtain ⟨rfl,h2⟩:=cut_spec h
 rw [List.length_take,List.length_drop]
 omega
theorem isSc_one {E:Env} {v:AV} {u:Value} (h:Conc E v u) (hs:isSc v=true):u.oneCell'=true:=by
 cases h <;> first | rfl | simp [isSc] at hs
theorem allSc_one {E:Env}:∀ {l:List AV} {us:List Value},ConcL E l us→allSc l=true→∀ u ∈ us,u.oneCell'=true
 | [],[],_,_=>by simp
 | v :: l,u :: us,.cons _ _ _ _ h t,hs=>by
  cases hv:isSc v with
  | false=>simp [allSc,hv] at hs
  | true =>
   simp [allSc,hv] at hs
   intro x hx
   rcases List.mem_cons.1 hx with rfl | hx
   ·exact isSc_one h hv
   ·exact allSc_one t hs x hx
theorem run_storeCells_row (P:Program) (b o:Nat) (t:TypeId) (fz:Nat × Nat):∀ (vs:List Value) (i:Nat) (cs:List Value) (w:World),
  w.heap[b]? = some (.cells cs.toArray t fz)→(∀ off,off < cs.length→¬ (fz.1≤off∧off < fz.2))→o+i+vs.length≤cs.length→(∀ v ∈ vs,v.oneCell'=true) →
  (storeCells ⟨b,o,none⟩ vs i).run P w = .ok () { w with heap:=w.heap.setIfInBounds b (.cells (ovr cs (o+i) vs).toArray t fz) }
 | [],i,cs,w,hw,_,_,_=>by
  have:ovr cs (o+i) []=cs:=by
   rw [ovr_eq _ _ _ (by simp; assumption)]; simp
  simp only [storeCells,Sem.run_pure,this]
  congr 1
  have hlt:=(Array.getElem?_eq_some_iff.1 hw)
  obtain ⟨hlt,he⟩:=hlt
  cases w
  simp only [World.mk.injEq,and_true]
  simp only at he hlt
  apply Array.ext
  ·simp
  ·intro j h1 h2
   by_cases e:j=b
   ·subst e; simp [he]
   ·rw [Array.getElem_setIfInBounds_ne _ (Ne.symm e)]
 | v :: vs,i,cs,w,hw,hf,hl,h1=>by
  have hadd:Addr.add ⟨b,o,none⟩ i=⟨b,o+i,none⟩:=by
   unfold Addr.add; split
   ·rename_i e; subst e; rfl
   ·rfl
  have hlen:o+i < cs.length:=by simp at hl; omega
  have hcell:w.cell? ⟨b,o+i,none⟩=some (cs[o+i]):=by simp [World.cell?,hw,hlen]
  have hfr:w.frozen? ⟨b,o+i,none⟩=false:=by
   have:=hf (o+i) hlen
   obtain ⟨lo,hi⟩:=fz
   simp only [World.frozen?,hw]
   simp at this ⊢
   intro hh; omega
  have hset:w.setCell ⟨b,o+i,none⟩ v = { w with heap:=w.heap.setIfInBounds b (.cells (cs.set (o+i) v).toArray t fz) }:=by
   obtain ⟨hlt,he⟩:=Array.getElem?_eq_some_iff.1 hw
   simp only [World.setCell]
   congr 1
   apply Array.ext
   ·simp
   ·intro j g1 g2
    by_cases e:j=b
    ·subst e
     rw [Array.getElem_modify_self]
     simp [he]
    ·rw [Array.getElem_modify_of_ne (Ne.symm e),Array.getElem_setIfInBounds_ne _ (Ne.symm e)]
  have hlt:b < w.heap.size:=(Array.getElem?_eq_some_iff.1 hw).1
  have ih:=run_storeCells_row P b o t fz vs (i+1) (cs.set (o+i) v) { w with heap:=w.heap.setIfInBounds b (.cells (cs.set (o+i) v).toArray t fz) }
   (by simp [hlt]) (by simpa using hf) (by simp at hl ⊢; omega) (fun x hx=>h1 x (by simp [hx]))
  simp only [storeCells,Sem.run_bind,hadd,run_store P w _ v _ (h1 v (by simp)),hcell,hfr,hset,Result.andThen,Bool.false_eq_true,if_false]
  rw [ih]
  congr 1
  have e2:ovr (cs.set (o+i) v) (o+(i+1)) vs=ovr cs (o+i) (v :: vs):=by
   rw [ovr_eq _ _ _ (by simp at hl ⊢; omega),ovr_eq _ _ _ (by simp at hl ⊢; omega)]
   have ht:(cs.set (o+i) v).take (o+(i+1))=cs.take (o+i)++[v]:=by
    rw [show o+(i+1)=(o+i)+1 by omega,List.take_succ_eq_append_getElem (by simpa using hlen)]
    rw [List.take_set,List.set_eq_of_length_le (by simp; omega)]
    simp
   rw [ht]
   simp only [List.append_assoc,List.cons_append,List.nil_append,List.length_cons]
   congr 3
   rw [show o+(i+1)+vs.length=o+i+(vs.length+1) by omega]
   rw [List.drop_set_of_lt (by omega)]
  rw [e2]
  simp only [World.mk.injEq,and_true]
  apply Array.ext
  ·simp
  ·intro j g1 g2
   by_cases e:j=b
   ·subst e; simp
   ·rw [Array.getElem_setIfInBounds_ne _ (Ne.symm e),Array.getElem_setIfInBounds_ne _ (Ne.symm e),Array.getElem_setIfInBounds_ne _ (Ne.symm e)]
    all_goals (simp at g2 ⊢; exact g2)
section
variable {E : Env} {H : Array Obj} {st : St}
theorem Rel.cells (h:Rel E H st) {r:Nat} {l:List AV} {g:Nat} {al:List Nat} (hr:st.ce r=some (l,g,al)) :
  ∃ (B:Blk) (cs:List Value) (t:TypeId) (fz:Nat × Nat),E.phi r=some B∧H[B.b]? = some (.cells cs.toArray t fz)∧FzOk cs.length fz∧cs.length=B.n ∧
   B.d+l.length≤B.n∧ConcL E l ((cs.drop B.d).take l.length):=by
 obtain ⟨ha,-,-,-⟩:=St.ce_spec hr
 obtain ⟨B,hB,cs,t,fz,h1,h2,h3,h4,h5⟩:=h.rows r _ ha
 exact ⟨B,cs.toList,t,fz,hB,by simpa using h1,by simpa using h2,by simpa using h3,h4,h5⟩
theorem Rel.turn (h:Rel E H st) {E':Env} {st':St} {b:Nat} {o:Obj} (hb:b < H.size) (hbi:E.imm b=none)
  (hle:E.le E') (himm:E'.imm=E.imm) (hphi:∀ x,x < st.next→E'.phi x=E.phi x)
  (hnext:st.next≤st'.next) (htop:E'.top=E.top) (hfresh:∀ r,st'.next≤r→(r < E.top→E'.phi r=none)∧st'.get r=none) (hg:∀ g,st'.next≤g→st'.live.get g=none)
  (hll:∀ g al x,st'.live.get g=some al→x ∈ al→x < st'.next)
  (hal:∀ x w,st'.alive x=some w→(x < st.next∧st.alive x=some w∧(∀ C,E.phi x=some C→C.b=b→RowOK E' (H.setIfInBounds b o) C w)) ∨
   (∃ C,E'.phi x=some C∧C.b=b∧RowOK E' (H.setIfInBounds b o) C w))
  (hsep:∀ x x' w w' C C',st'.alive x=some w→st'.alive x'=some w'→E'.phi x=some C→E'.phi x'=some C'→C.b=b→C'.b=b→x=x'∨∃ g l l',w = .ce l g∧w' = .ce l' g)
  (hends:∀ g al,st'.live.get g=some al→al.Pairwise (EndLe E' st' g))
  (hty:∀ r t r0 x,st'.get r=some (.ty t r0 x)→st.get r=some (.ty t r0 x)) (htk:TyKeep H (H.setIfInBounds b o)) :
  Rel E' (H.setIfInBounds b o) st':=by
 have hother:∀ c,c≠b→(H.setIfInBounds b o)[c]? = H[c]?:=fun c hc=>by rw [Array.getElem?_setIfInBounds_ne (Ne.symm hc)]
 refine ⟨?_,fun r hr ht=>(hfresh r hr).1 (htop ▸ ht),fun r hr=>(hfresh r hr).2,hg,hll,?_,?_,?_,hends,fun r t r0 x hx=>(h.tys r t r0 x (hty r t r0 x hx)).mono hle htk⟩
 ·intro c o' hc
  rw [himm] at hc
  have:c≠b:=by rintro rfl; rw [hbi] at hc; cases hc
  rw [hother c this]; exact h.imm c o' hc
 ·intro x w hx
  rcases hal x w hx with ⟨hlt,hw,hin⟩ | ⟨C,hC,-,hR⟩
  ·obtain ⟨C,hC,hR⟩:=h.rows x w hw
   refine ⟨C,hle.phi x C hC,?_⟩
   by_cases e:C.b=b
   ·exact hin C hC e
   ·exact hR.mono hle (hother _ e)
  ·exact ⟨C,hC,hR⟩
 ·intro x w C hx hC
  rw [himm]
  rcases hal x w hx with ⟨hlt,hw,-⟩ | ⟨C',hC',hb',-⟩
  ·rw [hphi x hlt] at hC; exact h.own x w C hw hC
  ·rw [hC'] at hC; cases hC; rw [hb']; exact hbi
 ·intro x x' w w' C C' hx hx' hC hC' hcc
  by_cases e:C.b=b
  ·exact hsep x x' w w' C C' hx hx' hC hC' e (hcc ▸ e)
  ·have e':C'.b≠b:=hcc ▸ e
   rcases hal x w hx with ⟨hlt,hw,-⟩ | ⟨D,hD,hb',-⟩
   ·rcases hal x' w' hx' with ⟨hlt',hw',-⟩ | ⟨D,hD,hb',-⟩
    ·rw [hphi x hlt] at hC; rw [hphi x' hlt'] at hC'
     exact h.sep x x' w w' C C' hw hw' hC hC' hcc
    ·rw [hD] at hC'; cases hC'; exact absurd hb' e'
   ·rw [hD] at hC; cases hC; exact absurd hb' e
theorem Rel.wt (h:Rel E H st) {r o:Nat} {vs:List AV} {us:List Value} {st':St} (hw:wt st r o vs=some st') (hc:ConcL E vs us) :
  ∃ (B:Blk) (cs:List Value) (t:TypeId) (fz:Nat × Nat),E.phi r=some B∧H[B.b]? = some (.cells cs.toArray t fz)∧FzOk cs.length fz ∧
   (o+B.d)+us.length≤cs.length∧(∀ u ∈ us,u.oneCell'=true)∧Rel E (H.setIfInBounds B.b (.cells (ovr cs (o+B.d) us).toArray t fz)) st':=by
 unfold Ev.wt at hw
 cases hr:st.ce r with
 | none=>simp [hr] at hw
 | some x =>
  obtain ⟨l,g,al⟩:=x
  simp only [hr] at hw
  cases hb:Nat.ble (o+vs.length) l.length with
  | false=>simp [hb] at hw
  | true =>
   cases hs:allSc vs with
   | false=>simp [hs] at hw
   | true =>
    simp only [hb,hs,Bool.and_self,Option.some.injEq] at hw
    have hle:=Nat.le_of_ble_eq_true hb
    obtain ⟨ha,hlg,hm,hget⟩:=St.ce_spec hr
    obtain ⟨B,cs,t,fz,hB,hH,hfz,hn,hd,hC⟩:=h.cells hr
    have hlen:=hc.length
    refine ⟨B,cs,t,fz,hB,hH,hfz,by omega,allSc_one hc hs,?_⟩
    have hlt:B.b < H.size:=(Array.getElem?_eq_some_iff.1 hH).1
    subst hw
    have hget':∀ x,(St.mk (st.rows.set r (some (.ce (ovr l o vs) g))) (st.live.set g (some [r])) st.next).get x=if x=r then some (.ce (ovr l o vs) g) else st.get x:=fun x=>by
     simp [St.get,Tr.get_set]
    have hrlt:=h.alive_lt ha
    have hal:∀ x w,(St.mk (st.rows.set r (some (.ce (ovr l o vs) g))) (st.live.set g (some [r])) st.next).alive x=some w →
      (x=r∧w = .ce (ovr l o vs) g)∨(x≠r∧st.alive x=some w∧∀ lx,w≠.ce lx g):=by
     intro x w hx
     by_cases e:x=r
     ·left
      have:=Rel.alive_get hx
      rw [hget',if_pos e] at this
      exact ⟨e,(Option.some.inj this).symm⟩
     ·right
      have hg:=Rel.alive_get hx
      rw [hget',if_neg e] at hg
      unfold St.alive at hx ⊢
      rw [hget',if_neg e,hg] at hx
      rw [hg]
      cases w with
      | ce lx gx =>
       simp only [Tr.get_set] at hx ⊢
       by_cases eg:gx=g
       ·subst eg
        have:mem x [r]=false:=by
         cases hmm:mem x [r] with
         | false=>rfl
         | true=>rw [mem_iff] at hmm; simp at hmm; exact absurd hmm e
        simp [this] at hx
       ·rw [if_neg eg] at hx
        exact ⟨e,hx,fun lx'=>by rintro ⟨⟩; exact eg rfl⟩
      | mp=>exact ⟨e,rfl,fun lx=>by rintro ⟨⟩⟩
      | si=>exact ⟨e,rfl,fun lx=>by rintro ⟨⟩⟩
      | mi=>exact ⟨e,rfl,fun lx=>by rintro ⟨⟩⟩
      | lp=>exact ⟨e,rfl,fun lx=>by rintro ⟨⟩⟩
      | mu=>exact ⟨e,rfl,fun lx=>by rintro ⟨⟩⟩
      | ch=>exact ⟨e,rfl,fun lx=>by rintro ⟨⟩⟩
      | ty=>cases hx
    have hne:∀ x w C,x≠r→st.alive x=some w→(∀ lx,w≠.ce lx g)→E.phi x=some C→C.b≠B.b:=by
     intro x w C hx hw hng hC e
     rcases h.sep x r w _ C B hw ha hC hB e with rfl | ⟨g',l1,l2,rfl,h2⟩
     ·exact hx rfl
     ·cases h2; exact hng l1 rfl
    refine h.turn hlt (h.own r _ B ha hB) (Env.le.refl E) rfl (fun _ _=>rfl) (Nat.le_refl _) rfl ?_ ?_ ?_ ?_ ?_ ?_ (fun x t' r0 q hx=>by
     rw [hget'] at hx
     split at hx
     ·cases hx
     ·exact hx) (TyKeep.set hH)
    ·intro x hx
     exact ⟨fun ht=>h.fresh x hx ht,by rw [hget',if_neg (by simp at hx; omega)]; exact h.freshRow x hx⟩
    ·intro g' hg'
     have:g≠g':=by rintro rfl; rw [h.freshG g hg'] at hlg; cases hlg
     simp only [Tr.get_set,if_neg (Ne.symm this)]; exact h.freshG g' hg'
    ·intro g' al' x hg' hx
     simp only [Tr.get_set] at hg'
     by_cases eg:g'=g
     ·rw [if_pos eg] at hg'; cases hg'; simp at hx; subst hx; exact hrlt
     ·rw [if_neg eg] at hg'; exact h.liveLt g' al' x hg' hx
    ·intro x w hx
     rcases hal x w hx with ⟨rfl,rfl⟩ | ⟨hxr,hw,hng⟩
     ·right
      refine ⟨B,hB,rfl,(ovr cs (o+B.d) us).toArray,t,fz,by simp [hlt],?_,?_,?_,?_⟩
      ·simpa [ovr_length] using hfz
      ·simpa [ovr_length] using hn
      ·rw [ovr_length]; exact hd
      ·rw [ovr_length]
       have:=ovr_in cs B.d o us l.length (by omega) (by omega)
       rw [Nat.add_comm o B.d]
       simp only []
       rw [this]
       exact hC.ovr hc o hle
     ·left
      exact ⟨h.alive_lt hw,hw,fun C hC e=>absurd e (hne x w C hxr hw hng hC)⟩
    ·intro x x' w w' C C' hx hx' hC hC' e1 e2
     rcases hal x w hx with ⟨rfl,rfl⟩ | ⟨hxr,hw,hng⟩
     ·rcases hal x' w' hx' with ⟨rfl,rfl⟩ | ⟨hxr',hw',hng'⟩
      ·exact .inl rfl
      ·exact absurd e2 (hne x' w' C' hxr' hw' hng' hC')
     ·exact absurd e1 (hne x w C hxr hw hng hC)
    ·intro g' al' hg'
     simp only [Tr.get_set] at hg'
     by_cases eg:g'=g
     ·rw [if_pos eg] at hg'; cases hg'; simp
     ·rw [if_neg eg] at hg'
      refine (h.ends g' al' hg').imp ?_
      intro x y hxy lx ly Bx By h1 h2 h3 h4 h5
      rw [hget'] at h1 h2
      have e1:x≠r:=by rintro rfl; rw [if_pos rfl] at h1; cases h1; exact eg rfl
      have e2:y≠r:=by rintro rfl; rw [if_pos rfl] at h2; cases h2; exact eg rfl
      rw [if_neg e1] at h1; rw [if_neg e2] at h2
      exact hxy lx ly Bx By h1 h2 h3 h4 h5
def grown (st:St) (l':List AV) (g:Nat) (al':List Nat):St:=⟨st.rows.set st.next (some (.ce l' g)),st.live.set g (some al'),st.next+1⟩
theorem grown_get (st:St) (l':List AV) (g:Nat) (al':List Nat) (x:Nat):(grown st l' g al').get x=if x=st.next then some (.ce l' g) else st.get x:=by
 simp [grown,St.get,Tr.get_set]
theorem grown_alive {l l':List AV} {g r:Nat} {al al':List Nat} (hr:st.ce r=some (l,g,al)) (hsub:∀ x ∈ al',x=st.next∨x ∈ from_ r al) {x:Nat} {w:Row}
  (hx:(grown st l' g al').alive x=some w):(x=st.next∧w = .ce l' g)∨(x≠st.next∧st.alive x=some w∧(∀ lx,w = .ce lx g→x ∈ al')):=by
 by_cases e:x=st.next
 ·left
  have:=Rel.alive_get hx
  rw [grown_get,if_pos e] at this
  exact ⟨e,(Option.some.inj this).symm⟩
 ·right
  obtain ⟨-,hlg,-,-⟩:=St.ce_spec hr
  have hg:=Rel.alive_get hx
  rw [grown_get,if_neg e] at hg
  unfold St.alive at hx ⊢
  rw [grown_get,if_neg e,hg] at hx
  rw [hg]
  cases w with
  | ce lx gx =>
   simp only [grown,Tr.get_set] at hx ⊢
   by_cases eg:gx=g
   ·subst eg
    simp only [if_true] at hx
    cases hm:mem x al' with
    | false=>simp [hm] at hx
    | true =>
     rw [mem_iff] at hm
     rcases hsub x hm with h1 | h1
     ·exact absurd h1 e
     ·have:mem x al=true:=mem_iff.2 (from_mem h1)
      simp only [hlg,this,cond_true]
      exact ⟨e,trivial,fun _ _=>hm⟩
   ·rw [if_neg eg] at hx
    exact ⟨e,hx,fun lx'=>by rintro ⟨⟩; exact absurd rfl eg⟩
  | mp=>exact ⟨e,rfl,fun lx=>by rintro ⟨⟩⟩
  | si=>exact ⟨e,rfl,fun lx=>by rintro ⟨⟩⟩
  | mi=>exact ⟨e,rfl,fun lx=>by rintro ⟨⟩⟩
  | lp=>exact ⟨e,rfl,fun lx=>by rintro ⟨⟩⟩
  | mu=>exact ⟨e,rfl,fun lx=>by rintro ⟨⟩⟩
  | ch=>exact ⟨e,rfl,fun lx=>by rintro ⟨⟩⟩
  | ty=>cases hx
theorem ends_from (h:Rel E H st) {r g:Nat} {al:List Nat} (hlg:st.live.get g=some al) (hm:r ∈ al) {x:Nat} (hx:x ∈ from_ r al):x=r∨EndLe E st g r x:=by
 have hp:=h.ends g al hlg
 obtain ⟨p,hpa⟩:=from_suffix r al
 obtain ⟨t,ht⟩:=from_head hm
 rw [hpa] at hp
 have:=(List.pairwise_append.1 hp).2.1
 rw [ht] at this hx
 rcases List.mem_cons.1 hx with rfl | hx
 ·exact .inl rfl
 ·exact .inr ((List.pairwise_cons.1 this).1 x hx)
theorem pair_from (h:Rel E H st) {r g:Nat} {al:List Nat} (hlg:st.live.get g=some al):(from_ r al).Pairwise (EndLe E st g):=by
 have hp:=h.ends g al hlg
 obtain ⟨p,hpa⟩:=from_suffix r al
 rw [hpa] at hp
 exact (List.pairwise_append.1 hp).2.1
theorem Rel.growIn (h:Rel E H st) (hnt:st.next < E.top) {r o k:Nat} {l old new:List AV} {g:Nat} {al al':List Nat} {us:List Value} (hr:st.ce r=some (l,g,al)) (hcut:cut l o k=some old)
  (hal':(al'=st.next :: from_ r al∧o+k=l.length)∨al'=[st.next]) (hnew:ConcL E new us)
  {B:Blk} (hB:E.phi r=some B) (hroom:o+B.d+k+us.length≤B.n) :
  ∃ (cs:List Value) (t:TypeId) (fz:Nat × Nat),H[B.b]? = some (.cells cs.toArray t fz)∧FzOk cs.length fz∧cs.length=B.n ∧
   Rel (E.bind st.next ⟨B.b,o+B.d,B.n⟩) (H.setIfInBounds B.b (.cells (ovr cs (o+B.d+k) us).toArray t fz)) (grown st (old++new) g al'):=by
 obtain ⟨ha,hlg,hm,hget⟩:=St.ce_spec hr
 obtain ⟨B',cs,t,fz,hB',hH,hfz,hn,hd,hC⟩:=h.cells hr
 rw [hB] at hB'; cases hB'
 refine ⟨cs,t,fz,hH,hfz,hn,?_⟩
 have hlt:B.b < H.size:=(Array.getElem?_eq_some_iff.1 hH).1
 have hsub:∀ x ∈ al',x=st.next∨x ∈ from_ r al:=by
  rcases hal' with ⟨rfl,_⟩ | rfl
  ·intro x hx; simpa using hx
  ·intro x hx; left; simpa using hx
 have hmem:r ∈ al:=mem_iff.1 hm
 have hle:E.le (E.bind st.next ⟨B.b,o+B.d,B.n⟩):=Env.le_bind (h.fresh _ (Nat.le_refl _) hnt)
 have hg1:g < st.next:=by
  rcases Nat.lt_or_ge g st.next with hh | hh
  ·exact hh
  ·rw [h.freshG g hh] at hlg; cases hlg
 have hin:∀ x w C,x≠st.next→st.alive x=some w→(∀ lx,w = .ce lx g→x ∈ al')→E.phi x=some C→C.b=B.b→∃ lx,w = .ce lx g∧C.d+lx.length≤o+B.d+k:=by
  intro x w C hx hw hin hC e
  have hxg:∃ lx,w = .ce lx g:=by
   rcases h.sep x r w _ C B hw ha hC hB e with rfl | ⟨g',l1,l2,rfl,h2⟩
   ·rw [ha] at hw; cases hw; exact ⟨l,rfl⟩
   ·cases h2; exact ⟨l1,rfl⟩
  obtain ⟨lx,rfl⟩:=hxg
  refine ⟨lx,rfl,?_⟩
  have hxm:=hin lx rfl
  rcases hal' with ⟨rfl,hk⟩ | rfl
  ·have hx2:x ∈ from_ r al:=by simpa [hx] using hxm
   rcases ends_from h hlg hmem hx2 with rfl | he
   ·rw [ha] at hw; cases hw
    rw [hB] at hC; cases hC
    omega
   ·have:=he l lx B C hget (Rel.alive_get hw) hB hC e.symm
    omega
  ·simp at hxm; exact absurd hxm hx
 refine h.turn hlt (h.own r _ B ha hB) hle rfl (fun x hx=>Env.bind_ne (by omega)) (show st.next≤st.next+1 from Nat.le_succ _) rfl ?_ ?_ ?_ ?_ ?_ ?_ (fun x t' r0 q hx=>by
  rw [grown_get] at hx
  split at hx
  ·cases hx
  ·exact hx) (TyKeep.set hH)
 ·intro x hx
  simp only [grown] at hx
  exact ⟨fun ht=>by rw [Env.bind_ne (by omega)]; exact h.fresh x (by omega) ht,by rw [grown_get,if_neg (by omega)]; exact h.freshRow x (by omega)⟩
 ·intro g' hg'
  simp only [grown] at hg'
  have:g'≠g:=by omega
  simp only [grown,Tr.get_set,if_neg this]; exact h.freshG g' (by omega)
 ·intro g' al2 x hg' hx
  simp only [grown,Tr.get_set] at hg' ⊢
  by_cases eg:g'=g
  ·rw [if_pos eg] at hg'; cases hg'
   rcases hsub x hx with rfl | h1
   ·omega
   ·have:=h.liveLt g al x hlg (from_mem h1); omega
  ·rw [if_neg eg] at hg'; have:=h.liveLt g' al2 x hg' hx; omega
 ·intro x w hx
  rcases grown_alive hr hsub hx with ⟨rfl,rfl⟩ | ⟨hxn,hw,hxin⟩
  ·right
   refine ⟨_,Env.bind_self,rfl,(ovr cs (o+B.d+k) us).toArray,t,fz,by simp [hlt],?_,?_,?_,?_⟩
   ·simpa [ovr_length] using hfz
   ·simpa [ovr_length] using hn
   ·simp only [List.length_append]
    have:=cut_length hcut
    have:=hnew.length
    omega
   ·have hol:=cut_length hcut
    have hnl:=hnew.length
    obtain ⟨rfl,hok⟩:=cut_spec hcut
    simp only [List.length_append]
    have e1:((ovr cs (o+B.d+k) us).drop (o+B.d)).take (((l.drop o).take k).length+new.length)=((cs.drop (o+B.d)).take k)++us:=by
     rw [ovr_eq _ _ _ (by omega),hol,hnl]
     apply List.ext_getElem?
     intro j
     by_cases hj:j < k+us.length
     ·rw [List.getElem?_take_of_lt hj,List.getElem?_drop]
      simp only [List.getElem?_append,List.length_take,List.length_append,List.length_drop,List.getElem?_take,List.getElem?_drop]
      have a1:min (o+B.d+k) cs.length=o+B.d+k:=by omega
      have a2:min k (cs.length - (o+B.d))=k:=by omega
      rw [a1,a2]
      by_cases h1:j < k
      ·rw [if_pos (by omega),if_pos (by omega),if_pos (by omega),if_pos h1,if_pos h1]
      ·rw [if_pos (by omega),if_neg (by omega),if_neg h1]
       congr 1; omega
     ·rw [List.getElem?_eq_none (by rw [List.length_take]; omega),List.getElem?_eq_none (by simp only [List.length_append,List.length_take,List.length_drop]; omega)]
    rw [e1]
    refine ConcL.append (ConcL.mono hle ?_) (hnew.mono hle)
    have h2:=(hC.drop o).take k
    rw [List.drop_take,List.drop_drop,List.take_take] at h2
    rw [Nat.add_comm o B.d]
    rcases hok with hok | rfl
    ·rwa [show min k (l.length - o)=k by omega] at h2
    ·simp at h2 ⊢
     exact .nil
  ·left
   refine ⟨h.alive_lt hw,hw,fun C hC e=>?_⟩
   obtain ⟨lx,rfl,hend⟩:=hin x w C hxn hw hxin hC e
   obtain ⟨C',hC',cs',t',fz',g1,g2,g3,g4,g5⟩:=h.rows x _ hw
   rw [hC] at hC'; cases hC'
   rw [e,hH] at g1; cases g1
   refine ⟨(ovr cs (o+B.d+k) us).toArray,t,fz,by rw [e]; simp [hlt],?_,?_,g4,?_⟩
   ·simpa [ovr_length] using hfz
   ·simp [ovr_length]; simpa using g3
   ·simp only [] at g5 ⊢
    rw [ovr_drop_take cs _ us C.d lx.length (by omega) hend]
    exact g5.mono hle
 ·intro x x' w w' C C' hx hx' hC hC' e1 e2
  rcases grown_alive hr hsub hx with ⟨rfl,rfl⟩ | ⟨hxn,hw,hxin⟩ <;> rcases grown_alive hr hsub hx' with ⟨rfl,rfl⟩ | ⟨hxn',hw',hxin'⟩
  ·exact .inl rfl
  ·rw [Env.bind_ne hxn'] at hC'
   obtain ⟨lx,rfl,-⟩:=hin x' w' C' hxn' hw' hxin' hC' e2
   exact .inr ⟨g,_,_,rfl,rfl⟩
  ·rw [Env.bind_ne hxn] at hC
   obtain ⟨lx,rfl,-⟩:=hin x w C hxn hw hxin hC e1
   exact .inr ⟨g,_,_,rfl,rfl⟩
  ·rw [Env.bind_ne hxn] at hC; rw [Env.bind_ne hxn'] at hC'
   obtain ⟨lx,rfl,-⟩:=hin x w C hxn hw hxin hC e1
   obtain ⟨lx',rfl,-⟩:=hin x' w' C' hxn' hw' hxin' hC' e2
   exact .inr ⟨g,_,_,rfl,rfl⟩
 ·intro g' al2 hg'
  simp only [grown,Tr.get_set] at hg'
  have keep:∀ (gg:Nat) (al3:List Nat),(∀ x ∈ al3,x < st.next)→al3.Pairwise (EndLe E st gg)→al3.Pairwise (EndLe (E.bind st.next ⟨B.b,o+B.d,B.n⟩) (grown st (old++new) g al') gg):=by
   intro gg al3 hall hp
   refine hp.imp_of_mem ?_
   intro x y hx hy hxy lx ly Bx By h1 h2 h3 h4 h5
   have a1:=hall x hx
   have a2:=hall y hy
   rw [grown_get,if_neg (by omega)] at h1 h2
   rw [Env.bind_ne (by omega)] at h3 h4
   exact hxy lx ly Bx By h1 h2 h3 h4 h5
  by_cases eg:g'=g
  ·subst eg
   rw [if_pos rfl] at hg'; cases hg'
   rcases hal' with ⟨rfl,hk⟩ | rfl
   ·refine List.pairwise_cons.2 ⟨?_,keep _ _ (fun x hx=>h.liveLt _ al x hlg (from_mem hx)) (pair_from h hlg)⟩
    intro y hy lx ly Bx By h1 h2 h3 h4 h5
    rw [grown_get,if_pos rfl] at h1; cases h1
    rw [Env.bind_self] at h3; cases h3
    have hyn:y≠st.next:=by have:=h.liveLt _ al y hlg (from_mem hy); omega
    rw [grown_get,if_neg hyn] at h2
    rw [Env.bind_ne hyn] at h4
    have hol:=cut_length hcut
    simp only at h5 ⊢
    rw [List.length_append,hol]
    rcases ends_from h hlg hmem hy with rfl | he
    ·rw [hget] at h2; cases h2
     rw [hB] at h4; cases h4
     omega
    ·have:=he l ly B By hget h2 hB h4 h5
     omega
   ·simp
  ·rw [if_neg eg] at hg'
   exact keep _ _ (fun x hx=>h.liveLt g' al2 x hg' hx) (h.ends g' al2 hg')
theorem Rel.growOut (h:Rel E H st) (hn:st.next < E.top) {r o k:Nat} {l old new:List AV} {g:Nat} {al al':List Nat} {vs:List Value} (hr:st.ce r=some (l,g,al)) (hcut:cut l o k=some old)
  (hal':(al'=st.next :: from_ r al∧o+k=l.length)∨al'=[st.next]) (t:TypeId)
  (hl:(old++new).length≤vs.length) (hc:ConcL E (old++new) (vs.take (old++new).length)) :
  Rel (E.bind st.next ⟨H.size,0,vs.length⟩) (H.push (.cells vs.toArray t (0,0))) (grown st (old++new) g al'):=by
 obtain ⟨ha,hlg,hm,hget⟩:=St.ce_spec hr
 have hsub:∀ x ∈ al',x=st.next∨x ∈ from_ r al:=by
  rcases hal' with ⟨rfl,_⟩ | rfl
  ·intro x hx; simpa using hx
  ·intro x hx; left; simpa using hx
 have hle:E.le (E.bind st.next ⟨H.size,0,vs.length⟩):=Env.le_bind (h.fresh _ (Nat.le_refl _) hn)
 have hold:∀ b,b < H.size→(H.push (.cells vs.toArray t (0,0)))[b]? = H[b]?:=fun b hb=>by simp [Array.getElem?_push,Nat.ne_of_lt hb]
 have hg1:g < st.next:=by
  rcases Nat.lt_or_ge g st.next with hh | hh
  ·exact hh
  ·rw [h.freshG g hh] at hlg; cases hlg
 refine ⟨?_,?_,?_,?_,?_,?_,?_,?_,?_,fun x t' r0 q hx=>by
  rw [grown_get] at hx
  split at hx
  ·cases hx
  ·exact (h.tys x t' r0 q hx).mono hle (TyKeep.push H _)⟩
 ·intro b o' hb
  have hb':E.imm b=some o':=hb
  rw [hold b (h.imm_lt hb')]; exact h.imm b o' hb'
 ·intro x hx ht
  simp only [grown] at hx
  rw [Env.bind_ne (by omega)]; exact h.fresh x (by omega) ht
 ·intro x hx
  simp only [grown] at hx
  rw [grown_get,if_neg (by omega)]; exact h.freshRow x (by omega)
 ·intro g' hg'
  simp only [grown] at hg'
  simp only [grown,Tr.get_set,if_neg (show ¬ g'=g by omega)]; exact h.freshG g' (by omega)
 ·intro g' al2 x hg' hx
  simp only [grown,Tr.get_set] at hg' ⊢
  by_cases eg:g'=g
  ·rw [if_pos eg] at hg'; cases hg'
   rcases hsub x hx with rfl | h1
   ·omega
   ·have:=h.liveLt g al x hlg (from_mem h1); omega
  ·rw [if_neg eg] at hg'; have:=h.liveLt g' al2 x hg' hx; omega
 ·intro x w hx
  rcases grown_alive hr hsub hx with ⟨rfl,rfl⟩ | ⟨hxn,hw,-⟩
  ·exact ⟨_,Env.bind_self,vs.toArray,t,(0,0),by simp,by exact .inl rfl,by simp,by simpa using hl,by simpa using hc.mono hle⟩
  ·obtain ⟨C,hC,hR⟩:=h.rows x w hw
   exact ⟨C,by rw [Env.bind_ne hxn]; exact hC,hR.mono hle (hold _ hR.lt)⟩
 ·intro x w C hx hC
  rcases grown_alive hr hsub hx with ⟨rfl,rfl⟩ | ⟨hxn,hw,-⟩
  ·rw [Env.bind_self] at hC; cases hC
   show E.imm H.size=none
   cases hi:E.imm H.size with
   | none=>rfl
   | some o'=>exact absurd (h.imm_lt hi) (Nat.lt_irrefl _)
  ·rw [Env.bind_ne hxn] at hC; exact h.own x w C hw hC
 ·intro x x' w w' C C' hx hx' hC hC' hb
  rcases grown_alive hr hsub hx with ⟨rfl,rfl⟩ | ⟨hxn,hw,-⟩ <;> rcases grown_alive hr hsub hx' with ⟨rfl,rfl⟩ | ⟨hxn',hw',-⟩
  ·exact .inl rfl
  ·rw [Env.bind_self] at hC; cases hC
   rw [Env.bind_ne hxn'] at hC'
   obtain ⟨D,hD,hR⟩:=h.rows x' w' hw'
   rw [hC'] at hD; cases hD
   have:=hR.lt
   simp at hb; omega
  ·rw [Env.bind_self] at hC'; cases hC'
   rw [Env.bind_ne hxn] at hC
   obtain ⟨D,hD,hR⟩:=h.rows x w hw
   rw [hC] at hD; cases hD
   have:=hR.lt
   simp at hb; omega
  ·rw [Env.bind_ne hxn] at hC; rw [Env.bind_ne hxn'] at hC'
   exact h.sep x x' w w' C C' hw hw' hC hC' hb
 ·intro g' al2 hg'
  simp only [grown,Tr.get_set] at hg'
  have keep:∀ (gg:Nat) (al3:List Nat),(∀ x ∈ al3,x < st.next)→al3.Pairwise (EndLe E st gg)→al3.Pairwise (EndLe (E.bind st.next ⟨H.size,0,vs.length⟩) (grown st (old++new) g al') gg):=by
   intro gg al3 hall hp
   refine hp.imp_of_mem ?_
   intro x y hx hy hxy lx ly Bx By h1 h2 h3 h4 h5
   have a1:=hall x hx
   have a2:=hall y hy
   rw [grown_get,if_neg (by omega)] at h1 h2
   rw [Env.bind_ne (by omega)] at h3 h4
   exact hxy lx ly Bx By h1 h2 h3 h4 h5
  by_cases eg:g'=g
  ·subst eg
   rw [if_pos rfl] at hg'; cases hg'
   rcases hal' with ⟨rfl,hk⟩ | rfl
   ·refine List.pairwise_cons.2 ⟨?_,keep _ _ (fun x hx=>h.liveLt _ al x hlg (from_mem hx)) (pair_from h hlg)⟩
    intro y hy lx ly Bx By h1 h2 h3 h4 h5
    rw [Env.bind_self] at h3; cases h3
    have hyn:y≠st.next:=by have:=h.liveLt _ al y hlg (from_mem hy); omega
    rw [grown_get,if_neg hyn] at h2
    rw [Env.bind_ne hyn] at h4
    have hmy:mem y al=true:=mem_iff.2 (from_mem hy)
    have hay:st.alive y=some (.ce ly g'):=by simp only [St.alive,h2,hlg,hmy,cond_true]
    obtain ⟨D,hD,hR⟩:=h.rows y _ hay
    rw [h4] at hD; cases hD
    have:=hR.lt
    simp at h5; omega
   ·simp
  ·rw [if_neg eg] at hg'
   exact keep _ _ (fun x hx=>h.liveLt g' al2 x hg' hx) (h.ends g' al2 hg')
theorem Step.wt (h:Rel E H st) {r o:Nat} {vs:List AV} {us:List Value} {st':St} (hw:wt st r o vs=some st') (hc:ConcL E vs us) :
  ∃ (B:Blk) (cs:List Value) (t:TypeId) (fz:Nat × Nat),E.phi r=some B∧H[B.b]? = some (.cells cs.toArray t fz)∧FzOk cs.length fz ∧
   (o+B.d)+us.length≤cs.length∧(∀ u ∈ us,u.oneCell'=true)∧Step E E H (H.setIfInBounds B.b (.cells (ovr cs (o+B.d) us).toArray t fz)) st st':=by
 obtain ⟨B,cs,t,fz,h1,h2,h3,h4,h5,h6⟩:=h.wt hw hc
 refine ⟨B,cs,t,fz,h1,h2,h3,h4,h5,.refl E,fun _ _ _ h=>h,rfl,h6,by simp,?_,?_⟩
 ·intro b hb ho
  have hw':=hw
  unfold Ev.wt at hw'
  cases hr:st.ce r with
  | none=>simp [hr] at hw'
  | some x =>
   obtain ⟨l,g,al⟩:=x
   obtain ⟨ha,-,-,-⟩:=St.ce_spec hr
   have:b≠B.b:=by rintro rfl; exact ho ⟨r,_,B,ha,h1,rfl⟩
   rw [Array.getElem?_setIfInBounds_ne (Ne.symm this)]
 ·rintro b ⟨x,w,C,hx,hC,rfl⟩
  right
  have hw':=hw
  unfold Ev.wt at hw'
  cases hr:st.ce r with
  | none=>simp [hr] at hw'
  | some y =>
   obtain ⟨l,g,al⟩:=y
   simp only [hr] at hw'
   obtain ⟨ha,hlg,hm,hget⟩:=St.ce_spec hr
   by_cases e:x=r
   ·subst e; exact ⟨x,_,C,ha,hC,rfl⟩
   ·cases hb:(Nat.ble (o+vs.length) l.length && allSc vs) with
    | false=>simp [hb] at hw'
    | true =>
     simp only [hb,Option.some.injEq] at hw'
     subst hw'
     refine ⟨x,w,C,?_,hC,rfl⟩
     have hg:=Rel.alive_get hx
     simp only [St.get,Tr.get_set,if_neg e] at hg
     unfold St.alive at hx ⊢
     simp only [St.get,Tr.get_set,if_neg e,hg] at hx ⊢
     cases w with
     | ce lx gx =>
      simp only at hx ⊢
      by_cases eg:gx=g
      ·subst eg
       have:mem x [r]=false:=by
        cases hmm:mem x [r] with
        | false=>rfl
        | true=>rw [mem_iff] at hmm; simp at hmm; exact absurd hmm e
       simp [this] at hx
      ·rw [if_neg eg] at hx; exact hx
     | mp=>rfl
     | si=>rfl
     | mi=>rfl
     | lp=>rfl
     | mu=>rfl
     | ch=>rfl
     | ty=>simp at hx
theorem grown_own {E':Env} {l l':List AV} {g r:Nat} {al al':List Nat} (hr:st.ce r=some (l,g,al)) (hsub:∀ x ∈ al',x=st.next∨x ∈ from_ r al)
  (hE:∀ x,x≠st.next→E'.phi x=E.phi x) {b:Nat} (ho:Owned E' (grown st l' g al') b):(∃ B,E'.phi st.next=some B∧B.b=b)∨Owned E st b:=by
 obtain ⟨x,w,C,hx,hC,rfl⟩:=ho
 rcases grown_alive hr hsub hx with ⟨rfl,rfl⟩ | ⟨hxn,hw,-⟩
 ·exact .inl ⟨C,hC,rfl⟩
 ·rw [hE x hxn] at hC
  exact .inr ⟨x,w,C,hw,hC,rfl⟩
theorem Step.growIn (h:Rel E H st) (hnt:st.next < E.top) {r o k:Nat} {l old new:List AV} {g:Nat} {al al':List Nat} {us:List Value} (hr:st.ce r=some (l,g,al)) (hcut:cut l o k=some old)
  (hal':(al'=st.next :: from_ r al∧o+k=l.length)∨al'=[st.next]) (hnew:ConcL E new us)
  {B:Blk} (hB:E.phi r=some B) (hroom:o+B.d+k+us.length≤B.n) :
  ∃ (cs:List Value) (t:TypeId) (fz:Nat × Nat),H[B.b]? = some (.cells cs.toArray t fz)∧FzOk cs.length fz∧cs.length=B.n ∧
   Step E (E.bind st.next ⟨B.b,o+B.d,B.n⟩) H (H.setIfInBounds B.b (.cells (ovr cs (o+B.d+k) us).toArray t fz)) st (grown st (old++new) g al'):=by
 obtain ⟨cs,t,fz,h1,h2,h3,h4⟩:=h.growIn hnt hr hcut hal' hnew hB hroom
 obtain ⟨ha,-,-,-⟩:=St.ce_spec hr
 have hsub:∀ x ∈ al',x=st.next∨x ∈ from_ r al:=by
  rcases hal' with ⟨rfl,_⟩ | rfl
  ·intro x hx; simpa using hx
  ·intro x hx; left; simpa using hx
 refine ⟨cs,t,fz,h1,h2,h3,Env.le_bind (h.fresh _ (Nat.le_refl _) hnt),fun _ _ _ h=>h,rfl,h4,by simp,?_,?_⟩
 ·intro b hb ho
  have:b≠B.b:=by rintro rfl; exact ho ⟨r,_,B,ha,hB,rfl⟩
  rw [Array.getElem?_setIfInBounds_ne (Ne.symm this)]
 ·intro b ho
  right
  rcases grown_own hr hsub (fun x hx=>Env.bind_ne hx) ho with ⟨C,hC,rfl⟩ | ho
  ·rw [Env.bind_self] at hC; cases hC
   exact ⟨r,_,B,ha,hB,rfl⟩
  ·exact ho
theorem Step.growOut (h:Rel E H st) (hnt:st.next < E.top) {r o k:Nat} {l old new:List AV} {g:Nat} {al al':List Nat} {vs:List Value} (hr:st.ce r=some (l,g,al)) (hcut:cut l o k=some old)
  (hal':(al'=st.next :: from_ r al∧o+k=l.length)∨al'=[st.next]) (t:TypeId)
  (hl:(old++new).length≤vs.length) (hc:ConcL E (old++new) (vs.take (old++new).length)) :
  Step E (E.bind st.next ⟨H.size,0,vs.length⟩) H (H.push (.cells vs.toArray t (0,0))) st (grown st (old++new) g al'):=by
 have hsub:∀ x ∈ al',x=st.next∨x ∈ from_ r al:=by
  rcases hal' with ⟨rfl,_⟩ | rfl
  ·intro x hx; simpa using hx
  ·intro x hx; left; simpa using hx
 refine ⟨Env.le_bind (h.fresh _ (Nat.le_refl _) hnt),fun _ _ _ h=>h,rfl,h.growOut hnt hr hcut hal' t hl hc,by simp,?_,?_⟩
 ·intro b hb ho
  simp [Array.getElem?_push,Nat.ne_of_lt hb]
 ·intro b ho
  rcases grown_own hr hsub (fun x hx=>Env.bind_ne hx) ho with ⟨C,hC,rfl⟩ | ho
  ·rw [Env.bind_self] at hC; cases hC; exact .inl (Nat.le_refl _)
  ·exact .inr ho
theorem kill_alive {r x:Nat} {w:Row} (hx:(st.kill r).alive x=some w):st.alive x=some w∧(st.kill r).get x=st.get x:=by
 unfold St.kill at hx ⊢
 split at hx
 ·rename_i l g al hg
  refine ⟨?_,rfl⟩
  have h1:=Rel.alive_get hx
  unfold St.alive at hx ⊢
  simp only [St.get] at h1 hx ⊢
  simp only [h1] at hx ⊢
  cases w with
  | ce lx gx =>
   simp only [Tr.get_set] at hx ⊢
   by_cases eg:gx=g
   ·subst eg; simp [mem] at hx
   ·rw [if_neg eg] at hx; exact hx
  | mp=>rfl
  | si=>rfl
  | mi=>rfl
  | lp=>rfl
  | mu=>rfl
  | ch=>rfl
  | ty=>simp at hx
 ·exact ⟨hx,rfl⟩
theorem Step.kill (h:Rel E H st) (r:Nat):Step E E H H st (st.kill r):=by
 have hget:∀ x,(st.kill r).get x=st.get x:=by
  intro x; unfold St.kill; split <;> rfl
 have hnext:(st.kill r).next=st.next:=by unfold St.kill; split <;> rfl
 have hlive:∀ g al,(st.kill r).live.get g=some al→al=[]∨st.live.get g=some al:=by
  intro g al hg
  unfold St.kill at hg
  split at hg
  ·simp only [Tr.get_set] at hg
   split at hg
   ·cases hg; exact .inl rfl
   ·exact .inr hg
  ·exact .inr hg
 refine ⟨.refl E,fun _ _ _ h=>h,rfl,⟨h.imm,by rw [hnext]; exact h.fresh,fun x hx=>by rw [hget]; exact h.freshRow x (hnext ▸ hx),?_,?_,?_,?_,?_,?_,fun x t r0 q hx=>h.tys x t r0 q (hget x ▸ hx)⟩,Nat.le_refl _,fun _ _ _=>rfl,?_⟩
 ·intro g hg
  rw [hnext] at hg
  unfold St.kill
  split
  ·rename_i l g' al' hg'
   simp only [Tr.get_set]
   split
   ·rename_i e
    subst e
    obtain ⟨-,hlg,-,-⟩:=St.ce_spec hg'
    rw [h.freshG _ hg] at hlg; cases hlg
   ·exact h.freshG g hg
  ·exact h.freshG g hg
 ·intro g al x hg hx
  rw [hnext]
  rcases hlive g al hg with rfl | hg
  ·simp at hx
  ·exact h.liveLt g al x hg hx
 ·intro x w hx; exact h.rows x w (kill_alive hx).1
 ·intro x w B hx hB; exact h.own x w B (kill_alive hx).1 hB
 ·intro x x' w w' B B' hx hx' hB hB' hb; exact h.sep x x' w w' B B' (kill_alive hx).1 (kill_alive hx').1 hB hB' hb
 ·intro g al hg
  rcases hlive g al hg with rfl | hg
  ·simp
  ·refine (h.ends g al hg).imp ?_
   intro x y hxy lx ly Bx By h1 h2
   rw [hget] at h1 h2
   exact hxy lx ly Bx By h1 h2
 ·rintro b ⟨x,w,C,hx,hC,rfl⟩
  exact .inr ⟨x,w,C,(kill_alive hx).1,hC,rfl⟩
end
end
end Go.Ev
