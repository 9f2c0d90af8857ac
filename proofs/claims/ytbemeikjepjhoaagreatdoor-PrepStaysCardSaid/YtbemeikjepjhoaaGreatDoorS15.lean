/-
  What an operation looks at; a row taken up late. · Regions that draw their order: the run in the text's order, and where another order stands in it. · Regions that draw their order: what stands while they run.
-/
import Derived.Test.YtbemeikjepjhoaaGreatDoorS14
namespace Go.Ev
noncomputable section
theorem args_congr {t t':Tr AV}:∀ {l:List Operand},(∀ x ∈ l,evO t x=evO t' x)→args t l=args t' l
 | [],_=>rfl
 | x :: l,h=>by
  have h1:=h x (List.mem_cons_self ..)
  have h2:=args_congr (l:=l) fun y hy=>h y (List.mem_cons_of_mem _ hy)
  show evO t x :: args t l=evO t' x :: args t' l
  rw [h1,h2]
theorem vals_congr {t t':Tr AV}:∀ {l:List (Nat × Operand)},(∀ p ∈ l,evO t p.2=evO t' p.2)→vals t l=vals t' l
 | [],_=>rfl
 | x :: l,h=>by
  have h1:=h x (List.mem_cons_self ..)
  have h2:=vals_congr (l:=l) fun y hy=>h y (List.mem_cons_of_mem _ hy)
  show (x.1,evO t x.2) :: vals t l=(x.1,evO t' x.2) :: vals t' l
  rw [h1,h2]
theorem optMap_congr {t t':Tr AV} {o:Option Operand} (h:∀ x,o=some x→evO t x=evO t' x):o.map (evO t)=o.map (evO t'):=by
 cases o with
 | none=>rfl
 | some x=>simp [h x rfl]
theorem evOp_congr {P:Program} {S:Self} {t t':Tr AV} {st:St} {o:Oper} (h:∀ x ∈ o.op.operands,evO t x=evO t' x):evOp P S t st o=evOp P S t' st o:=by
 unfold evOp
 obtain ⟨dst,op,type,pos,after,guard⟩:=o
 cases op <;> simp only [Op.operands] at h <;> first | rfl | skip
 case move x=>show some (evO t x,st)=some (evO t' x,st); rw [h x (by simp)]
 case assign x=>show some (evO t x,st)=some (evO t' x,st); rw [h x (by simp)]
 case pick c a b=>show pickB (evO t a) (evO t b) st (evO t c).asB=pickB (evO t' a) (evO t' b) st (evO t' c).asB; rw [h a (by simp),h b (by simp),h c (by simp)]
 case box e x=>show allocC st (evO t x).cells=allocC st (evO t' x).cells; rw [h x (by simp)]
 case build ty ps =>
  have:vals t ps.toList=vals t' ps.toList:=vals_congr fun p hp=>h p.2 (by simp; exact ⟨p.1,by simpa using hp⟩)
  show @Bool.rec (fun _=>Res) none (opBuild1 P ty (vals t ps.toList) st) (wfTy P ty)=@Bool.rec (fun _=>Res) none (opBuild1 P ty (vals t' ps.toList) st) (wfTy P ty)
  rw [this]
 case buildSlice ty n ps =>
  have:vals t ps.toList=vals t' ps.toList:=vals_congr fun p hp=>h p.2 (by simp; exact ⟨p.1,by simpa using hp⟩)
  show opBuildSlice ty n ps P S t st=opBuildSlice ty n ps P S t' st
  unfold opBuildSlice
  rw [this]
 case insert ty m k x=>show done (mapUpdate P ty st (evO t m) (evO t k) (evO t x))=done (mapUpdate P ty st (evO t' m) (evO t' k) (evO t' x)); rw [h m (by simp),h k (by simp),h x (by simp)]
 case mapEntry ty m k=>show mapEntry P ty st (evO t m) (evO t k)=mapEntry P ty st (evO t' m) (evO t' k); rw [h m (by simp),h k (by simp)]
 case entryStore ty m s x=>show done (entryStore st (evO t x) (evO t m) (natOf (evO t s)))=done (entryStore st (evO t' x) (evO t' m) (natOf (evO t' s))); rw [h m (by simp),h s (by simp),h x (by simp)]
 case load ty a=>show give st (loadAt P ty st (evO t a))=give st (loadAt P ty st (evO t' a)); rw [h a (by simp)]
 case store ty a x=>show done (storeAt P ty st (evO t a) (evO t x))=done (storeAt P ty st (evO t' a) (evO t' x)); rw [h a (by simp),h x (by simp)]
 case nilCheck x=>show notNil st (evO t x)=notNil st (evO t' x); rw [h x (by simp)]
 case binOp op ty x y ty'=>show give st (binOp P ty (isK x || isK y) op (evO t x) (evO t y))=give st (binOp P ty (isK x || isK y) op (evO t' x) (evO t' y)); rw [h x (by simp),h y (by simp)]
 case unOp op ty x=>show give st (unOp op (evO t x))=give st (unOp op (evO t' x)); rw [h x (by simp)]
 case convert s d x=>show conv P st s d (evO t x)=conv P st s d (evO t' x); rw [h x (by simp)]
 case makeInterface xt x =>
  show opMakeInterface xt x P S t st=opMakeInterface xt x P S t' st
  unfold opMakeInterface
  rw [h x (by simp)]
 case makeFunc fn a b =>
  have ha:args t a.toList=args t' a.toList:=args_congr fun x hx=>h x (by simp at hx ⊢; exact .inl hx)
  have hb:args t b.toList=args t' b.toList:=args_congr fun x hx=>h x (by simp at hx ⊢; exact .inr hx)
  show @Bool.rec (fun _=>Res) none (some (.f fn (args t a.toList) (args t b.toList),st)) (notY fn)=@Bool.rec (fun _=>Res) none (some (.f fn (args t' a.toList) (args t' b.toList),st)) (notY fn)
  rw [ha,hb]
 case makeChan ty x =>
  show opMakeChan ty x P S t st=opMakeChan ty x P S t' st
  unfold opMakeChan
  rw [h x (by simp)]
 case send ch x=>show sendOf st (evO t x) (evO t ch)=sendOf st (evO t' x) (evO t' ch); rw [h x (by simp),h ch (by simp)]
 case select cs bl =>
  show opSelect cs bl P S t st=opSelect cs bl P S t' st
  unfold opSelect
  split
  ·rename_i _ s hcs
   have hcs':cs = #[s]:=by rw [← Array.toArray_toList (xs:=cs),hcs]
   have:evO t s.chan=evO t' s.chan:=h s.chan (by rw [hcs']; simp)
   rw [this]
  ·rfl
 case makeSlice ty l c =>
  show opMakeSlice ty l c P S t st=opMakeSlice ty l c P S t' st
  unfold opMakeSlice
  rw [h l (by simp),h c (by simp)]
 case slice ty x lo hi mx =>
  have h0:=h x (by simp)
  have h1:lo.map (evO t)=lo.map (evO t'):=optMap_congr fun y hy=>h y (by subst hy; simp)
  have h2:hi.map (evO t)=hi.map (evO t'):=optMap_congr fun y hy=>h y (by subst hy; simp)
  have h3:mx.map (evO t)=mx.map (evO t'):=optMap_congr fun y hy=>h y (by subst hy; simp)
  show give st (sliceR P st ty (evO t x) (lo.map (evO t)) (hi.map (evO t)) (mx.map (evO t)))=give st (sliceR P st ty (evO t' x) (lo.map (evO t')) (hi.map (evO t')) (mx.map (evO t')))
  rw [h0,h1,h2,h3]
 case fieldAddr s x n =>
  show opFieldAddr s x n P S t st=opFieldAddr s x n P S t' st
  unfold opFieldAddr
  rw [h x (by simp)]
 case field s x n =>
  show opField s x n P S t st=opField s x n P S t' st
  unfold opField
  rw [h x (by simp)]
 case indexAddr ty x ix=>show give st (indexAddr P ty (evO t x) (evO t ix))=give st (indexAddr P ty (evO t' x) (evO t' ix)); rw [h x (by simp),h ix (by simp)]
 case index ty x ix=>show give st (index P ty (evO t x) (evO t ix))=give st (index P ty (evO t' x) (evO t' ix)); rw [h x (by simp),h ix (by simp)]
 case lookup ty x ix ok=>show give st (lookup P ty st (evO t x) (evO t ix) ok)=give st (lookup P ty st (evO t' x) (evO t' ix) ok); rw [h x (by simp),h ix (by simp)]
 case mapUpdate ty m k x=>show done (mapUpdate P ty st (evO t m) (evO t k) (evO t x))=done (mapUpdate P ty st (evO t' m) (evO t' k) (evO t' x)); rw [h m (by simp),h k (by simp),h x (by simp)]
 case range ty x=>show rangeOf P ty st (evO t x)=rangeOf P ty st (evO t' x); rw [h x (by simp)]
 case next x s=>show nextOf st s (evO t x)=nextOf st s (evO t' x); rw [h x (by simp)]
 case entry x=>show entryOf st (evO t x)=entryOf st (evO t' x); rw [h x (by simp)]
 case typeAssert x xt as ok=>show assertOf P as ok st (evO t x)=assertOf P as ok st (evO t' x); rw [h x (by simp)]
 case extract x n=>show nth n st (evO t x)=nth n st (evO t' x); rw [h x (by simp)]
 case call c =>
  have ha:args t c.args.toList=args t' c.args.toList:=args_congr fun x hx=>h x (by simp at hx; simp [Call.operands,hx])
  show opCall c P S t st=opCall c P S t' st
  unfold opCall
  rw [ha]
  cases hc:c.callee with
  | builtin b=>rfl
  | value f=>simp only; rw [h f (by simp [Call.operands,hc])]
  | invoke r m=>simp only; rw [h r (by simp [Call.operands,hc])]
def only (t:Tr AV):List Tmp→Tr AV
 | []=>.lf
 | x :: l=>(only t l).set x (t.get x)
theorem only_get (t:Tr AV):∀ (l:List Tmp) (x:Tmp),(only t l).get x=if x ∈ l then t.get x else none
 | [],x=>by simp [only,Tr.get_lf]
 | y :: l,x=>by
  unfold only
  rw [Tr.get_set,only_get t l x]
  by_cases h:x=y
  ·subst h; simp
  ·simp [h]
section
variable {P : Program} {S : Self} {w : World} {E : Env} {st : St} {nt : Nat}
theorem looks_spec {ops:Array Oper} {o:Oper} {t:Tr AV} {a:Act} (hsz:a.tmps.size=nt) (h:∀ x ∈ o.looksAt ops,Conc E (tget t x) (a.tmps.getD x undef)) :
  (∀ r,guardOk ops t o=some r→Region.wanted o (yielded ops a.tmps)=r) ∧
  ∃ (t':Tr AV) (ρ:Operand→Value),(∀ x,Conc E (evO t' x) (ρ x))∧(∀ st,evOp P S t' st o=evOp P S t st o)∧((∀ cs b,o.op≠.select cs b)→execOp ρ o=execOp a.eval o):=by
 let L:=o.looksAt ops
 let t':=only t L
 let a':Act:={ tmps:=(Array.range nt).map (fun i=>if i ∈ L then a.tmps.getD i undef else undef),defers:=a.defers }
 have hget:∀ x,a'.tmps.getD x undef=if x ∈ L then a.tmps.getD x undef else undef:=by
  intro x
  rw [Array.getD_eq_getD_getElem?]
  by_cases hx:x < nt
  ·simp [a',hx]
  ·have e1:a'.tmps[x]? = none:=by simp [a',hx]
   have e2:a.tmps[x]? = none:=by simp [hsz]; omega
   rw [e1]
   simp [Array.getD_eq_getD_getElem?,e2]
 have hT:ConcT E nt t' a'.tmps:=by
  refine ⟨by simp [a'],fun x=>?_⟩
  rw [hget]
  unfold tget
  rw [only_get]
  by_cases hx:x ∈ L
  ·rw [if_pos hx,if_pos hx]; exact h x hx
  ·rw [if_neg hx,if_neg hx]; exact .un
 have hev:∀ x,x ∈ o.op.operands→evO t' x=evO t x:=by
  intro x hx
  cases x with
  | tmp y =>
   have:y ∈ L:=List.mem_append_left _ (List.mem_filterMap.2 ⟨.tmp y,by simpa using hx,rfl⟩)
   show (match t'.get y with | some v=>v | none=>.un)=(match t.get y with | some v=>v | none=>.un)
   rw [only_get,if_pos this]
  | _=>rfl
 have hea:∀ x,x ∈ o.op.operands→a'.eval x=a.eval x:=by
  intro x hx
  cases x with
  | tmp y =>
   have:y ∈ L:=List.mem_append_left _ (List.mem_filterMap.2 ⟨.tmp y,by simpa using hx,rfl⟩)
   have:=hget y
   rw [if_pos (by assumption)] at this
   exact this
  | _=>rfl
 refine ⟨fun r hr=>?_,t',a'.eval,evO_conc hT,fun st=>evOp_congr hev,fun hs=>execOp_congr o hs hea⟩
 have hg:guardOk ops t' o=some r:=by
  rw [← hr]
  unfold guardOk
  cases hgd:o.guard with
  | none=>rfl
  | some gw =>
   obtain ⟨g,want⟩:=gw
   simp only
   unfold guardBy
   cases hog:ops[g]? with
   | none=>rfl
   | some og =>
    simp only
    cases hd:og.dst with
    | none=>rfl
    | some d =>
     have:d ∈ L:=List.mem_append_right _ (by simp [hgd,hog,hd])
     simp only [t',only_get,if_pos this]
 rw [← guard_spec (a:=a') hT hg]
 unfold Region.wanted
 cases hgd:o.guard with
 | none=>rfl
 | some gw =>
  obtain ⟨g,want⟩:=gw
  have hy:yielded ops a.tmps g=yielded ops a'.tmps g:=by
   unfold yielded
   cases hog:(ops[g]?).bind (·.dst) with
   | none=>rfl
   | some d =>
    have hd:d ∈ L:=List.mem_append_right _ (by simp [hgd,hog])
    have:=hget d
    rw [if_pos hd] at this
    by_cases hlt:d < nt
    ·have e1:a.tmps[d]? = some (a.tmps.getD d undef):=by
      rw [Array.getD_eq_getD_getElem?]
      have:d < a.tmps.size:=Nat.lt_of_lt_of_eq hlt hsz.symm
      simp [this]
     have e2:a'.tmps[d]? = some (a'.tmps.getD d undef):=by
      rw [Array.getD_eq_getD_getElem?]
      have:d < a'.tmps.size:=by simp [a',hlt]
      simp [this]
     simp only [Option.bind_some,e1,e2,this]
    ·have hsz':a'.tmps.size=nt:=by simp [a']
     have hx':nt≤d:=Nat.le_of_not_lt hlt
     have e1:a.tmps[d]? = none:=Array.getElem?_eq_none (by rw [hsz]; exact hx')
     have e2:a'.tmps[d]? = none:=Array.getElem?_eq_none (by rw [hsz']; exact hx')
     simp only [Option.bind_some,e1,e2]
  simp only [hy]
theorem Step.reg {E0:Env} {H0 H:Array Obj} {st0 X X':St} (h:Step E0 E H0 H st0 X) {r:Nat} {B:Blk} {row:Row} (hphi:E.phi r=none) (hget:X.get r=none) (hr:r < X.next)
  (hmem:∀ g al,X.live.get g=some al→r ∉ al) (hlr:X.live.get r=none)
  (hget':∀ x,X'.get x=if x=r then some row else X.get x) (hnext:X'.next=X.next) (hlive':∀ g,X'.live.get g=X.live.get g∨(g=r∧X'.live.get g=some [r]))
  (hce:∀ l g,row = .ce l g→g=r) (hB:H0.size≤B.b) (hun:Un E X B.b) (hrow:RowOK E H B row):Step E0 (E.bind r B) H0 H st0 X':=by
 have hle:E.le (E.bind r B):=Env.le_bind hphi
 have hh:=h.rel
 have hal:∀ x y,X'.alive x=some y→(x=r∧y=row)∨(x≠r∧X.alive x=some y):=by
  intro x y hx
  by_cases e:x=r
  ·left
   have:=Rel.alive_get hx
   rw [hget',if_pos e] at this
   exact ⟨e,(Option.some.inj this).symm⟩
  ·right
   refine ⟨e,?_⟩
   unfold St.alive at hx ⊢
   rw [hget',if_neg e] at hx
   cases hg:X.get x with
   | none=>rw [hg] at hx; exact hx
   | some w =>
    rw [hg] at hx
    cases w with
    | ce l g =>
     simp only at hx ⊢
     rcases hlive' g with hq | ⟨rfl,hq⟩
     ·rw [hq] at hx; exact hx
     ·rw [hq] at hx
      have:mem x [g]=false:=by
       cases hm:mem x [g] with
       | false=>rfl
       | true=>rw [mem_iff] at hm; simp at hm; exact absurd hm e
      simp [this] at hx
    | mp=>exact hx
    | si=>exact hx
    | mi=>exact hx
    | lp=>exact hx
    | mu=>exact hx
    | ch=>exact hx
    | ty=>exact hx
 have hunB:∀ x y C,X.alive x=some y→E.phi x=some C→C.b≠B.b:=fun x y C hx hC hb=>hun.1 ⟨x,y,C,hx,hC,hb⟩
 refine ⟨h.le.trans hle,h.imm,h.top,⟨hh.imm,?_,?_,?_,?_,?_,?_,?_,?_,fun x t r0 q hx=>by
  rw [hget'] at hx
  split at hx
  ·cases hx; exact (show False from hrow).elim
  ·exact (hh.tys x t r0 q hx).mono hle (TyKeep.refl H)⟩,h.fr.size,h.fr.keep,?_⟩
 ·intro x hx ht
  rw [Env.bind_ne (by omega)]; exact hh.fresh x (by omega) ht
 ·intro x hx
  rw [hget',if_neg (by omega)]; exact hh.freshRow x (by omega)
 ·intro g hg
  rcases hlive' g with hq | ⟨rfl,_⟩
  ·rw [hq]; exact hh.freshG g (by omega)
  ·omega
 ·intro g al x hg hx
  rcases hlive' g with hq | ⟨rfl,hq⟩
  ·rw [hq] at hg; have:=hh.liveLt g al x hg hx; omega
  ·rw [hq] at hg; cases hg; simp at hx; omega
 ·intro x y hx
  rcases hal x y hx with ⟨rfl,rfl⟩ | ⟨hne,hx'⟩
  ·exact ⟨_,Env.bind_self,hrow.mono hle rfl⟩
  ·obtain ⟨C,hC,hR⟩:=hh.rows x y hx'
   exact ⟨C,by rw [Env.bind_ne hne]; exact hC,hR.mono hle rfl⟩
 ·intro x y C hx hC
  rcases hal x y hx with ⟨rfl,rfl⟩ | ⟨hne,hx'⟩
  ·rw [Env.bind_self] at hC; cases hC
   show E.imm B.b=none
   exact hun.2
  ·rw [Env.bind_ne hne] at hC; exact hh.own x y C hx' hC
 ·intro x x' y y' C C' hx hx' hC hC' hb
  rcases hal x y hx with ⟨rfl,rfl⟩ | ⟨hne,hx1⟩ <;> rcases hal x' y' hx' with ⟨rfl,rfl⟩ | ⟨hne',hx1'⟩
  ·exact .inl rfl
  ·rw [Env.bind_self] at hC; cases hC
   rw [Env.bind_ne hne'] at hC'
   exact absurd hb.symm (hunB _ _ _ hx1' hC')
  ·rw [Env.bind_self] at hC'; cases hC'
   rw [Env.bind_ne hne] at hC
   exact absurd hb (hunB _ _ _ hx1 hC)
  ·rw [Env.bind_ne hne] at hC; rw [Env.bind_ne hne'] at hC'
   exact hh.sep x x' y y' C C' hx1 hx1' hC hC' hb
 ·intro g al hg
  rcases hlive' g with hq | ⟨rfl,hq⟩
  ·rw [hq] at hg
   refine (hh.ends g al hg).imp_of_mem ?_
   intro x y hx hy hxy lx ly Bx By h1 h2 h3 h4 h5
   have hxn:x≠r:=by rintro rfl; exact hmem g al hg hx
   have hyn:y≠r:=by rintro rfl; exact hmem g al hg hy
   rw [hget',if_neg hxn] at h1; rw [hget',if_neg hyn] at h2
   rw [Env.bind_ne hxn] at h3; rw [Env.bind_ne hyn] at h4
   exact hxy lx ly Bx By h1 h2 h3 h4 h5
  ·rw [hq] at hg; cases hg; simp
 ·rintro b ⟨x,y,C,hx,hC,rfl⟩
  rcases hal x y hx with ⟨rfl,rfl⟩ | ⟨hne,hx'⟩
  ·rw [Env.bind_self] at hC; cases hC; exact .inl hB
  ·rw [Env.bind_ne hne] at hC
   exact h.fr.own _ ⟨x,y,C,hx',hC,rfl⟩
theorem St.alive_ext {X Y:St} (hg:∀ r,Y.get r=X.get r) (hl:∀ g,Y.live.get g=X.live.get g) (r:Nat):Y.alive r=X.alive r:=by
 unfold St.alive
 rw [hg]
 cases X.get r with
 | none=>rfl
 | some w=>cases w <;> first | rfl | (simp only [hl])
theorem Step.ext {E0:Env} {H0 H:Array Obj} {st0 X Y:St} (h:Step E0 E H0 H st0 X) (hg:∀ r,Y.get r=X.get r) (hl:∀ g,Y.live.get g=X.live.get g) (hn:X.next≤Y.next):Step E0 E H0 H st0 Y:=by
 have hh:=h.rel
 have ha:=St.alive_ext hg hl
 refine ⟨h.le,h.imm,h.top,⟨hh.imm,fun r hr ht=>hh.fresh r (by omega) ht,fun r hr=>by rw [hg]; exact hh.freshRow r (by omega),fun g hr=>by rw [hl]; exact hh.freshG g (by omega),
  fun g al x hal hx=>?_,fun r row hr=>hh.rows r row (by rw [← ha]; exact hr),fun r row B hr=>hh.own r row B (by rw [← ha]; exact hr),fun r r' row row' B B' h1 h2=>hh.sep r r' row row' B B' (by rw [← ha]; exact h1) (by rw [← ha]; exact h2),fun g al hal=>?_,fun x t r0 q hx=>hh.tys x t r0 q (by rw [← hg]; exact hx)⟩,h.fr.size,h.fr.keep,?_⟩
 ·rw [hl] at hal; have:=hh.liveLt g al x hal hx; omega
 ·rw [hl] at hal
  refine (hh.ends g al hal).imp ?_
  intro x y hxy lx ly Bx By h1 h2
  rw [hg] at h1 h2
  exact hxy lx ly Bx By h1 h2
 ·rintro b ⟨r,row,B,hr,hB,hb⟩
  exact h.fr.own b ⟨r,row,B,by rw [← ha]; exact hr,hB,hb⟩
end
end
end Go.Ev
namespace Go.Ev
noncomputable section
theorem kind_le (o:Oper):kind o.op≤3:=by
 unfold kind
 split <;> omega
theorem kind2_st {P:Program} {S:Self} {t:Tr AV} {o:Oper} {st st':St} (hk:kind o.op=2) {v:AV} (he:evOp P S t st o=some (v,st')):∃ l,st'=st.newCe l:=by
 unfold evOp at he
 cases hop:o.op <;> rw [hop] at hk he <;> first | (simp only [kind] at hk; omega; done) | skip
 case alloc e =>
  have he:allocC st (zeroC P e)=some (v,st'):=he
  cases hz:zeroC P e with
  | none=>rw [hz] at he; cases he
  | some l=>rw [hz] at he; cases he; exact ⟨l,rfl⟩
 case box e x =>
  have he:allocC st (evO t x).cells=some (v,st'):=he
  cases hz:(evO t x).cells with
  | none=>rw [hz] at he; cases he
  | some l=>rw [hz] at he; cases he; exact ⟨l,rfl⟩
 case buildSlice ty len parts =>
  have he:opBuildSlice ty len parts P S t st=some (v,st'):=he
  unfold opBuildSlice at he
  split at he
  ·cases he
  ·rename_i e hel
   cases hz:zeroC P e with
   | none=>rw [hz] at he; cases he
   | some z =>
    rw [hz] at he
    obtain ⟨hle,he⟩:=brec he
    cases hf:fill (placeE (szOf P e)) (rep len z) (vals t parts.toList) with
    | none=>rw [hf] at he; cases he
    | some l'=>rw [hf] at he; cases he; exact ⟨l',rfl⟩
 case call c =>
  exfalso
  obtain ⟨callee,as,ts⟩:=c
  cases callee <;> first | (simp [kind] at hk; done) | skip
  rename_i bb
  cases bb <;> simp [kind] at hk
theorem putT_get {nt:Nat} {t t':Tr AV} {d:Option Tmp} {v:AV} (h:putT nt t d v=some t') (x:Tmp):tget t' x=if d=some x then v else tget t x:=by
 cases d with
 | none=>cases h; simp
 | some d =>
  unfold putT at h
  obtain ⟨hlt,h⟩:=brec h
  rw [AV.seen_eq] at h
  cases h
  unfold tget
  rw [Tr.get_set]
  by_cases e:x=d
  ·subst e; simp
  ·have:¬ (some d=some x):=fun h=>e (Option.some.inj h).symm
   rw [if_neg e,if_neg this]
theorem putT_lt {nt:Nat} {t t':Tr AV} {d:Tmp} {v:AV} (h:putT nt t (some d) v=some t'):d < nt:=by
 unfold putT at h
 obtain ⟨hlt,h⟩:=brec h
 simpa [Nat.blt_eq] using hlt
section
variable {P : Program} {S : Self} {nt : Nat} {ops : Array Oper} {bs : List Nat} {R : List Rec}
def Ran (P:Program) (S:Self) (nt:Nat) (ops:Array Oper) (R:List Rec):Prop:=∀ i o,ops[i]? = some o→RecOK P S nt ops o (recAt R i) (recAt R (i+1))
def KAt (ops:Array Oper) (i:Nat):Prop:=∃ o,ops[i]? = some o∧kind o.op=3
def AAt (ops:Array Oper) (R:List Rec) (i:Nat):Prop:=∃ o,ops[i]? = some o∧kind o.op=2∧(recAt R i).w=true
def rowAt (R:List Rec) (i:Nat):Nat:=(recAt R i).st.next
theorem ran_step (hR:Ran P S nt ops R) {i:Nat} {o:Oper} (ho:ops[i]? = some o) (hk:¬ KAt ops i) (hk4:kind o.op≤3) :
  (¬ AAt ops R i∧(recAt R (i+1)).st=(recAt R i).st)∨(AAt ops R i∧∃ l,(recAt R (i+1)).st=(recAt R i).st.newCe l):=by
 obtain ⟨h1,h2,h3,h4⟩:=hR i o ho
 cases hw:(recAt R i).w with
 | false =>
  left
  refine ⟨fun ⟨_,_,_,hw'⟩=>?_,(h3 hw).2⟩
  rw [hw] at hw'; cases hw'
 | true =>
  have he:=h4 hw
  have na:kind o.op≠2→¬ AAt ops R i:=fun hne ⟨o',ho',hk',_⟩=>by
   rw [ho] at ho'; cases ho'; exact hne hk'
  rcases Nat.lt_or_ge (kind o.op) 2 with hlt | hge
  ·left
   rcases Nat.lt_or_ge (kind o.op) 1 with h0 | h1
   ·obtain ⟨f,hf⟩:=kind0 (P:=P) (S:=S) (t:=(recAt R i).t) (o:=o) (by omega)
    rw [hf] at he
    exact ⟨na (by omega),(give_spec he).2⟩
   ·have:=kind1 (by omega) (Sub.refl _) he
    rw [he] at this
    exact ⟨na (by omega),(Prod.mk.inj (Option.some.inj this)).2⟩
  ·right
   have:kind o.op=2:=by
    rcases Nat.lt_or_ge (kind o.op) 3 with h | h
    ·omega
    ·exact absurd ⟨o,ho,by omega⟩ hk
   exact ⟨⟨o,ho,this,hw⟩,kind2_st this he⟩
theorem ran_next (hS:SelfUp S) (hR:Ran P S nt ops R) {i:Nat} (hi:i < ops.size):(recAt R i).st.next≤(recAt R (i+1)).st.next:=by
 have ho:ops[i]? = some ops[i]:=by simp [hi]
 obtain ⟨h1,h2,h3,h4⟩:=hR i _ ho
 cases hw:(recAt R i).w with
 | false=>rw [(h3 hw).2]; exact Nat.le_refl _
 | true=>exact up_op hS _ _ (h4 hw)
theorem ran_mono (hS:SelfUp S) (hR:Ran P S nt ops R) {i j:Nat} (hij:i≤j) (hj:j≤ops.size):(recAt R i).st.next≤(recAt R j).st.next:=by
 induction j with
 | zero =>
  have:i=0:=by omega
  subst this; exact Nat.le_refl _
 | succ j ih =>
  rcases Nat.lt_or_ge i (j+1) with h | h
  ·exact Nat.le_trans (ih (by omega) (by omega)) (ran_next hS hR (by omega))
  ·have:i=j+1:=by omega
   subst this; exact Nat.le_refl _
theorem row_lt (hS:SelfUp S) (hR:Ran P S nt ops R) {i j:Nat} (ha:AAt ops R i) (hij:i < j) (hj:j≤ops.size):rowAt R i < (recAt R j).st.next:=by
 obtain ⟨o,ho,hk,hw⟩:=ha
 obtain ⟨h1,h2,h3,h4⟩:=hR i o ho
 obtain ⟨l,hl⟩:=kind2_st hk (h4 hw)
 have:=ran_mono hS hR (i:=i+1) (j:=j) (by omega) hj
 rw [hl] at this
 have e:((recAt R i).st.newCe l).next=(recAt R i).st.next+1:=rfl
 unfold rowAt
 omega
theorem row_inj (hS:SelfUp S) (hR:Ran P S nt ops R) {i j:Nat} (ha:AAt ops R i) (hb:AAt ops R j) (h:rowAt R i=rowAt R j):i=j:=by
 have lt:∀ {i},AAt ops R i→i < ops.size:=fun ⟨o,ho,_⟩=>(Array.getElem?_eq_some_iff.1 ho).1
 rcases Nat.lt_trichotomy i j with hij | hij | hij
 ·have:=row_lt hS hR ha hij (Nat.le_of_lt (lt hb)); unfold rowAt at *; omega
 ·exact hij
 ·have:=row_lt hS hR hb hij (Nat.le_of_lt (lt ha)); unfold rowAt at *; omega
theorem ran_gap (hS:SelfUp S) (hR:Ran P S nt ops R) {p:Nat}:∀ (m:Nat),p≤m→m≤ops.size→(∀ i,p≤i→i < m→¬ KAt ops i) →
  (∀ r,(∀ i,p≤i→i < m→AAt ops R i→r≠rowAt R i)→(recAt R m).st.get r=(recAt R p).st.get r∧(recAt R m).st.live.get r=(recAt R p).st.live.get r) ∧
  (∀ i,p≤i→i < m→AAt ops R i→∀ l,(recAt R (i+1)).st=(recAt R i).st.newCe l→(recAt R m).st.get (rowAt R i)=some (.ce l (rowAt R i))∧(recAt R m).st.live.get (rowAt R i)=some [rowAt R i]):=by
 intro m
 induction m with
 | zero =>
  intro hp _ _
  have:p=0:=by omega
  subst this
  exact ⟨fun _ _=>⟨rfl,rfl⟩,fun i _ h=>by omega⟩
 | succ m ih =>
  intro hp hm hno
  rcases Nat.lt_or_ge p (m+1) with hlt | hge
  ·obtain ⟨ih1,ih2⟩:=ih (by omega) (by omega) (fun i h1 h2=>hno i h1 (by omega))
   have ho:ops[m]? = some ops[m]:=by simp [show m < ops.size by omega]
   rcases ran_step hR ho (hno m (by omega) (by omega)) (kind_le _) with ⟨hna,hst⟩ | ⟨ha,l,hst⟩
   ·rw [hst]
    refine ⟨fun r hr=>ih1 r fun i h1 h2=>hr i h1 (by omega),fun i h1 h2 hai=>?_⟩
    have:i≠m:=by rintro rfl; exact hna hai
    exact ih2 i h1 (by omega) hai
   ·have hget:∀ r,(recAt R (m+1)).st.get r=if r=rowAt R m then some (.ce l (rowAt R m)) else (recAt R m).st.get r:=by
     intro r; rw [hst,St.get_newCe]; rfl
    have hlive:∀ g,(recAt R (m+1)).st.live.get g=if g=rowAt R m then some [rowAt R m] else (recAt R m).st.live.get g:=by
     intro g; rw [hst]; simp only [St.newCe,Tr.get_set]; rfl
    refine ⟨fun r hr=>?_,fun i h1 h2 hai l' hl'=>?_⟩
    ·have hne:=hr m (by omega) (by omega) ha
     rw [hget,hlive,if_neg hne,if_neg hne]
     exact ih1 r fun i h1 h2=>hr i h1 (by omega)
    ·by_cases e:i=m
     ·subst e
      rw [hget,hlive,if_pos rfl,if_pos rfl]
      rw [hst] at hl'
      have:=St.get_newCe (recAt R i).st l (recAt R i).st.next
      rw [hl',St.get_newCe,if_pos rfl,if_pos rfl] at this
      cases this
      exact ⟨rfl,rfl⟩
     ·have hlt':rowAt R i < rowAt R m:=row_lt hS hR hai (by omega) (by omega)
      have hne:rowAt R i≠rowAt R m:=by omega
      rw [hget,hlive,if_neg hne,if_neg hne]
      exact ih2 i h1 (by omega) hai l' hl'
  ·have:p=m+1:=by omega
   subst this
   exact ⟨fun _ _=>⟨rfl,rfl⟩,fun i _ h=>by omega⟩
theorem ran_slot0 (hR:Ran P S nt ops R) {x:Tmp}:∀ (j:Nat),j≤ops.size→(∀ i o,i < j→ops[i]? = some o→o.dst≠some x)→tget (recAt R j).t x=tget (recAt R 0).t x:=by
 intro j
 induction j with
 | zero=>intros; rfl
 | succ j ih =>
  intro hj hno
  have ho:ops[j]? = some ops[j]:=by simp [show j < ops.size by omega]
  obtain ⟨h1,h2,h3,h4⟩:=hR j _ ho
  rw [putT_get h2 x,if_neg (hno j _ (by omega) ho)]
  exact ih (by omega) fun i o h=>hno i o (by omega)
theorem ran_slot (hR:Ran P S nt ops R) {x:Tmp} {i:Nat} {o:Oper} (ho:ops[i]? = some o) (hd:o.dst=some x):∀ (j:Nat),i < j→j≤ops.size→(∀ i' o',i < i'→i' < j→ops[i']? = some o'→o'.dst≠some x) →
  tget (recAt R j).t x=(recAt R i).v:=by
 intro j
 induction j with
 | zero=>intro h; omega
 | succ j ih =>
  intro hij hj hno
  have hoj:ops[j]? = some ops[j]:=by simp [show j < ops.size by omega]
  obtain ⟨h1,h2,h3,h4⟩:=hR j _ hoj
  rw [putT_get h2 x]
  by_cases e:i=j
  ·subst e
   rw [ho] at hoj
   cases hoj
   rw [if_pos hd]
  ·rw [if_neg (hno j _ (by omega) (by omega) hoj)]
   exact ih (by omega) (by omega) fun i' o' h1 h2=>hno i' o' h1 (by omega)
end
end
end Go.Ev
namespace Go.Ev
noncomputable section
structure Gap (ops:Array Oper) (D:Nat→Prop) (p q:Nat):Prop where
 pq:p≤q
 qn:q≤ops.size
 before:∀ i o,i < p→ops[i]? = some o→2≤kind o.op→D i
 noK:∀ i,p≤i→i < q→¬ KAt ops i
 atq:q=ops.size∨KAt ops q
 after:∀ i,q≤i→KAt ops i→¬ D i
 start:p=0∨∃ k,p=k+1∧KAt ops k
structure Inv (ops:Array Oper) (R:List Rec) (nt:Nat) (E:Env) (H0:Array Obj) (ex:Tmp→Prop) (xb:Option (Nat × Obj)) (D Pd:Nat→Prop) (p q:Nat) (a:Act) (H:Array Obj) (E':Env) (X:St) (β ν:Nat→Nat) (ζ:Nat→Value):Prop where
 st:Step E E' H0 H (recAt R 0).st X
 sz:a.tmps.size=nt
 slotV:∀ x i o,D i→ops[i]? = some o→o.dst=some x→¬ (AAt ops R i∧Pd i)→Conc E' (recAt R i).v (a.tmps.getD x undef)
 slotP:∀ x i o,D i→ops[i]? = some o→o.dst=some x→AAt ops R i→Pd i→a.tmps.getD x undef=ζ i
 slot0:∀ x,¬ ex x→(∀ i o,D i→ops[i]? = some o→o.dst≠some x)→Conc E' (tget (recAt R 0).t x) (a.tmps.getD x undef)
 gap:Gap ops D p q
 next:X.next=(recAt R q).st.next
 freshP:∀ r,(recAt R p).st.next≤r→(recAt R p).st.get r=none∧(recAt R p).st.live.get r=none
 lows:∀ g al,(recAt R p).st.live.get g=some al→∀ x ∈ al,x < (recAt R p).st.next
 undone:∀ i,p≤i→i < q→AAt ops R i→¬ (D i∧¬ Pd i)→X.get (rowAt R i)=none∧X.live.get (rowAt R i)=none∧E'.phi (rowAt R i)=none
 rest:∀ r,(∀ i,p≤i→i < q→AAt ops R i→¬ (D i∧¬ Pd i)→r≠rowAt R i)→X.get r=(recAt R q).st.get r∧X.live.get r=(recAt R q).st.live.get r
 pend:∀ i,D i→AAt ops R i→Pd i→H0.size≤β i∧β i < H.size∧Un E' X (β i)∧(∀ l,(recAt R (i+1)).st=(recAt R i).st.newCe l→∀ g,RowOK E' H ⟨β i,0,ν i⟩ (.ce l g)) ∧
  ∀ F,F.phi (rowAt R i)=some ⟨β i,0,ν i⟩→Conc F (recAt R i).v (ζ i)
 inj:∀ i i',D i→AAt ops R i→Pd i→D i'→AAt ops R i'→Pd i'→β i=β i'→i=i'
 xtra:∀ b ob,xb=some (b,ob)→H0.size≤b∧H[b]? = some ob∧Un E' X b∧∀ i,D i→AAt ops R i→Pd i→β i≠b
section
variable {P : Program} {S : Self} {nt : Nat} {ops : Array Oper} {bs : List Nat} {R : List Rec} {E E' : Env} {H0 H : Array Obj} {ex : Tmp → Prop} {xb : Option (Nat × Obj)} {D Pd : Nat → Prop} {p q : Nat} {a : Act} {X : St} {β ν : Nat → Nat} {ζ : Nat → Value}
theorem Inv.congr {Pd':Nat→Prop} (h:Inv ops R nt E H0 ex xb D Pd p q a H E' X β ν ζ) (hp:∀ i,D i→AAt ops R i→(Pd i↔Pd' i)):Inv ops R nt E H0 ex xb D Pd' p q a H E' X β ν ζ:=by
 have und:∀ i,AAt ops R i→(¬ (D i∧¬ Pd' i)↔¬ (D i∧¬ Pd i)):=fun i ha=>by
  constructor
  ·rintro hn ⟨hd,hq⟩; exact hn ⟨hd,fun h=>hq ((hp i hd ha).2 h)⟩
  ·rintro hn ⟨hd,hq⟩; exact hn ⟨hd,fun h=>hq ((hp i hd ha).1 h)⟩
 refine ⟨h.st,h.sz,?_,?_,h.slot0,h.gap,h.next,h.freshP,h.lows,?_,?_,?_,?_,fun b ob hb=>⟨(h.xtra b ob hb).1,(h.xtra b ob hb).2.1,(h.xtra b ob hb).2.2.1,fun i hd ha hq=>(h.xtra b ob hb).2.2.2 i hd ha ((hp i hd ha).2 hq)⟩⟩
 ·intro x i o hd ho hx hn
  exact h.slotV x i o hd ho hx fun ⟨ha,hq⟩=>hn ⟨ha,(hp i hd ha).1 hq⟩
 ·intro x i o hd ho hx ha hq
  exact h.slotP x i o hd ho hx ha ((hp i hd ha).2 hq)
 ·intro i h1 h2 ha hn
  exact h.undone i h1 h2 ha ((und i ha).1 hn)
 ·intro r hr
  exact h.rest r fun i h1 h2 ha hn=>hr i h1 h2 ha ((und i ha).2 hn)
 ·intro i hd ha hq
  exact h.pend i hd ha ((hp i hd ha).2 hq)
 ·intro i i' hd ha hq hd' ha' hq'
  exact h.inj i i' hd ha ((hp i hd ha).2 hq) hd' ha' ((hp i' hd' ha').2 hq')
theorem AAt.lt {i:Nat} (h:AAt ops R i):i < ops.size:=by
 obtain ⟨o,ho,_⟩:=h
 exact (Array.getElem?_eq_some_iff.1 ho).1
theorem Inv.reg (hr0:Rel E H0 (recAt R 0).st) (hS:SelfUp S) (hR:Ran P S nt ops R) (h:Inv ops R nt E H0 ex xb D Pd p q a H E' X β ν ζ) {i:Nat} (hpi:p≤i) (hiq:i < q) (hA:AAt ops R i) (hD:D i) (hP:Pd i) :
  ∃ E'' X',Inv ops R nt E H0 ex xb D (fun x=>Pd x∧x≠i) p q a H E'' X' β ν ζ∧E'.le E'':=by
 obtain ⟨k1,k2,k3,k4,k5⟩:=h.pend i hD hA hP
 obtain ⟨u1,u2,u3⟩:=h.undone i hpi hiq hA (fun ⟨_,hn⟩=>hn hP)
 obtain ⟨o,ho,hk,hw⟩:=id hA
 obtain ⟨l,hl⟩:=kind2_st hk ((hR i o ho).2.2.2 hw)
 let r:=rowAt R i
 let X':St:=⟨X.rows.set r (some (.ce l r)),X.live.set r (some [r]),X.next⟩
 have hget:∀ x,X'.get x=if x=r then some (.ce l r) else X.get x:=fun x=>by simp [X',St.get,Tr.get_set]
 have hlive:∀ g,X'.live.get g=if g=r then some [r] else X.live.get g:=fun g=>by simp [X',Tr.get_set]
 obtain ⟨g1,g2⟩:=ran_gap hS hR q h.gap.pq h.gap.qn h.gap.noK
 have hrq:r < (recAt R q).st.next:=row_lt hS hR hA hiq h.gap.qn
 have hpr:(recAt R p).st.next≤r:=ran_mono hS hR hpi (Nat.le_of_lt hA.lt)
 have hmem:∀ g al,X.live.get g=some al→r ∉ al:=by
  intro g al hg hm
  by_cases hex:∃ i',p≤i'∧i' < q∧AAt ops R i'∧g=rowAt R i'
  ·obtain ⟨i',h1,h2,h3,rfl⟩:=hex
   by_cases hun:D i'∧¬ Pd i'
   ·have hne:i'≠i:=by rintro rfl; exact hun.2 hP
    have:=(h.rest (rowAt R i') (fun i'' e1 e2 e3 e4 e5=>by
     have:=row_inj hS hR h3 e3 e5; subst this; exact e4 hun)).2
    obtain ⟨o',ho',hk',hw'⟩:=id h3
    obtain ⟨l',hl'⟩:=kind2_st hk' ((hR i' o' ho').2.2.2 hw')
    rw [this,(g2 i' h1 h2 h3 l' hl').2] at hg
    cases hg
    simp at hm
    exact hne (row_inj hS hR h3 hA hm.symm)
   ·rw [(h.undone i' h1 h2 h3 hun).2.1] at hg; cases hg
  ·have hn:∀ i',p≤i'→i' < q→AAt ops R i'→g≠rowAt R i':=fun i' h1 h2 h3 e=>hex ⟨i',h1,h2,h3,e⟩
   rw [(h.rest g fun i' h1 h2 h3 _=>hn i' h1 h2 h3).2,(g1 g hn).2] at hg
   have:=h.lows g al hg r hm
   omega
 have hst:=Step.reg (X':=X') (row:=.ce l r) (B:=⟨β i,0,ν i⟩) h.st u3 u1 (by rw [h.next]; exact hrq) hmem u2 hget rfl (fun g=>by
   rw [hlive]
   by_cases e:g=r
   ·right; exact ⟨e,by rw [if_pos e]⟩
   ·left; rw [if_neg e]) (fun l' g e=>by cases e; rfl) k1 k3 (k4 l hl r)
 have hle:E'.le (E'.bind r ⟨β i,0,ν i⟩):=Env.le_bind u3
 have hun:∀ b,b≠β i→Un E' X b→Un (E'.bind r ⟨β i,0,ν i⟩) X' b:=by
  intro b hb hno
  refine ⟨?_,hno.2⟩
  rintro ⟨x,y,C,hx,hC,hCb⟩
  by_cases e:x=r
  ·subst e
   rw [Env.bind_self] at hC
   cases hC
   exact hb hCb.symm
  ·rw [Env.bind_ne e] at hC
   refine hno.1 ⟨x,y,C,?_,hC,hCb⟩
   unfold St.alive at hx ⊢
   rw [hget,if_neg e] at hx
   cases hg:X.get x with
   | none=>rw [hg] at hx; exact hx
   | some w =>
    rw [hg] at hx
    cases w with
    | ce lx gx =>
     simp only at hx ⊢
     rw [hlive] at hx
     by_cases eg:gx=r
     ·rw [if_pos eg] at hx
      have:mem x [r]=false:=by
       cases hm:mem x [r] with
       | false=>rfl
       | true=>rw [mem_iff] at hm; simp at hm; exact absurd hm e
      simp [this] at hx
     ·rw [if_neg eg] at hx; exact hx
    | mp=>exact hx
    | si=>exact hx
    | mi=>exact hx
    | lp=>exact hx
    | mu=>exact hx
    | ch=>exact hx
    | ty=>exact hx
 refine ⟨_,X',⟨hst,h.sz,?_,?_,?_,h.gap,h.next,h.freshP,h.lows,?_,?_,?_,?_,fun b ob hb=>⟨(h.xtra b ob hb).1,(h.xtra b ob hb).2.1,hun b (fun e=>(h.xtra b ob hb).2.2.2 i hD hA hP e.symm) (h.xtra b ob hb).2.2.1,fun i' hd ha hq=>(h.xtra b ob hb).2.2.2 i' hd ha hq.1⟩⟩,hle⟩
 ·intro x i' o' hd ho' hx hn
  by_cases e:i'=i
  ·subst e
   rw [h.slotP x i' o' hd ho' hx hA hP]
   exact k5 _ Env.bind_self
  ·exact (h.slotV x i' o' hd ho' hx fun ⟨ha,hq⟩=>hn ⟨ha,hq,e⟩).mono hle
 ·intro x i' o' hd ho' hx ha hq
  exact h.slotP x i' o' hd ho' hx ha hq.1
 ·intro x hxe hx
  exact (h.slot0 x hxe hx).mono hle
 ·intro i' h1 h2 ha hn
  have hne:i'≠i:=by rintro rfl; exact hn ⟨hD,fun ⟨_,e⟩=>e rfl⟩
  have hrne:rowAt R i'≠r:=fun e=>hne (row_inj hS hR ha hA e)
  obtain ⟨v1,v2,v3⟩:=h.undone i' h1 h2 ha (fun ⟨hd,hq⟩=>hn ⟨hd,fun ⟨hq',_⟩=>hq hq'⟩)
  exact ⟨by rw [hget,if_neg hrne]; exact v1,by rw [hlive,if_neg hrne]; exact v2,by rw [Env.bind_ne hrne]; exact v3⟩
 ·intro x hx
  by_cases e:x=r
  ·subst e
   rw [hget,hlive,if_pos rfl,if_pos rfl]
   have:=g2 i hpi hiq hA l hl
   exact ⟨this.1.symm,this.2.symm⟩
  ·rw [hget,hlive,if_neg e,if_neg e]
   refine h.rest x fun i' h1 h2 ha hn=>?_
   by_cases e':i'=i
   ·subst e'; exact e
   ·exact hx i' h1 h2 ha fun ⟨hd,hq⟩=>hn ⟨hd,fun hq'=>hq ⟨hq',e'⟩⟩
 ·intro i' hd ha hq
  obtain ⟨v1,v2,v3,v4,v5⟩:=h.pend i' hd ha hq.1
  have hb:β i'≠β i:=fun e=>hq.2 (h.inj i' i hd ha hq.1 hD hA hP e)
  exact ⟨v1,v2,hun _ hb v3,fun l' hl' g=>(v4 l' hl' g).mono hle rfl,v5⟩
 ·intro i1 i2 hd ha hq hd' ha' hq'
  exact h.inj i1 i2 hd ha hq.1 hd' ha' hq'.1
theorem Inv.regs (hr0:Rel E H0 (recAt R 0).st) (hS:SelfUp S) (hR:Ran P S nt ops R):∀ (c:Nat),p≤c→c≤q→∀ {E':Env} {X:St},Inv ops R nt E H0 ex xb D (fun i=>p≤i) p q a H E' X β ν ζ →
  ∃ E'' X',Inv ops R nt E H0 ex xb D (fun i=>c≤i) p q a H E'' X' β ν ζ∧E'.le E'':=by
 intro c
 induction c with
 | zero =>
  intro hp _ E' X h
  have:p=0:=by omega
  subst this
  exact ⟨E',X,h,.refl _⟩
 | succ c ih =>
  intro hp hq E' X h
  rcases Nat.lt_or_ge p (c+1) with hlt | hge
  ·obtain ⟨E1,X1,h1,l1⟩:=ih (by omega) (by omega) h
   by_cases hc:AAt ops R c∧D c
   ·obtain ⟨E2,X2,h2,l2⟩:=h1.reg hr0 hS hR (i:=c) (by omega) (by omega) hc.1 hc.2 (Nat.le_refl c)
    exact ⟨E2,X2,h2.congr fun i _ _=>⟨fun ⟨u,v⟩=>by omega,fun u=>⟨by omega,by omega⟩⟩,l1.trans l2⟩
   ·refine ⟨E1,X1,h1.congr fun i hd ha=>⟨fun u=>?_,fun u=>by omega⟩,l1⟩
    have:i≠c:=by rintro rfl; exact hc ⟨ha,hd⟩
    omega
  ·have:p=c+1:=by omega
   subst this
   exact ⟨E',X,h,.refl _⟩
end
end
end Go.Ev
