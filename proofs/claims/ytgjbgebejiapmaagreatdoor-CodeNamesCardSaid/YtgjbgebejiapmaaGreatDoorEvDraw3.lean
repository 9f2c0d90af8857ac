/- What an operation looks at; a row taken up late. -/
import Derived.Test.YtgjbgebejiapmaaGreatDoorEvDraw2
namespace Go.Ev

noncomputable section

theorem args_congr {t t' : Tr AV} : ∀ {l : List Operand}, (∀ x ∈ l, evO t x = evO t' x) → args t l = args t' l
  | [], _ => rfl
  | x :: l, h => by
    have h1 := h x (List.mem_cons_self ..)
    have h2 := args_congr (l := l) fun y hy => h y (List.mem_cons_of_mem _ hy)
    show evO t x :: args t l = evO t' x :: args t' l
    rw [h1, h2]

theorem vals_congr {t t' : Tr AV} : ∀ {l : List (Nat × Operand)}, (∀ p ∈ l, evO t p.2 = evO t' p.2) → vals t l = vals t' l
  | [], _ => rfl
  | x :: l, h => by
    have h1 := h x (List.mem_cons_self ..)
    have h2 := vals_congr (l := l) fun y hy => h y (List.mem_cons_of_mem _ hy)
    show (x.1, evO t x.2) :: vals t l = (x.1, evO t' x.2) :: vals t' l
    rw [h1, h2]

theorem optMap_congr {t t' : Tr AV} {o : Option Operand} (h : ∀ x, o = some x → evO t x = evO t' x) : o.map (evO t) = o.map (evO t') := by
  cases o with
  | none => rfl
  | some x => simp [h x rfl]

theorem evOp_congr {P : Program} {S : Self} {t t' : Tr AV} {st : St} {o : Oper} (h : ∀ x ∈ o.op.operands, evO t x = evO t' x) : evOp P S t st o = evOp P S t' st o := by
  unfold evOp
  obtain ⟨dst, op, type, pos, after, guard⟩ := o
  cases op <;> simp only [Op.operands] at h <;> first | rfl | skip
  case move x => show some (evO t x, st) = some (evO t' x, st); rw [h x (by simp)]
  case assign x => show some (evO t x, st) = some (evO t' x, st); rw [h x (by simp)]
  case pick c a b => show pickB (evO t a) (evO t b) st (evO t c).asB = pickB (evO t' a) (evO t' b) st (evO t' c).asB; rw [h a (by simp), h b (by simp), h c (by simp)]
  case box e x => show allocC st (evO t x).cells = allocC st (evO t' x).cells; rw [h x (by simp)]
  case build ty ps =>
    have : vals t ps.toList = vals t' ps.toList := vals_congr fun p hp => h p.2 (by simp; exact ⟨p.1, by simpa using hp⟩)
    show @Bool.rec (fun _ => Res) none (opBuild1 P ty (vals t ps.toList) st) (wfTy P ty) = @Bool.rec (fun _ => Res) none (opBuild1 P ty (vals t' ps.toList) st) (wfTy P ty)
    rw [this]
  case buildSlice ty n ps =>
    have : vals t ps.toList = vals t' ps.toList := vals_congr fun p hp => h p.2 (by simp; exact ⟨p.1, by simpa using hp⟩)
    show opBuildSlice ty n ps P S t st = opBuildSlice ty n ps P S t' st
    unfold opBuildSlice
    rw [this]
  case insert ty m k x => show done (mapUpdate P ty st (evO t m) (evO t k) (evO t x)) = done (mapUpdate P ty st (evO t' m) (evO t' k) (evO t' x)); rw [h m (by simp), h k (by simp), h x (by simp)]
  case mapEntry ty m k => show mapEntry P ty st (evO t m) (evO t k) = mapEntry P ty st (evO t' m) (evO t' k); rw [h m (by simp), h k (by simp)]
  case entryStore ty m s x => show done (entryStore st (evO t x) (evO t m) (natOf (evO t s))) = done (entryStore st (evO t' x) (evO t' m) (natOf (evO t' s))); rw [h m (by simp), h s (by simp), h x (by simp)]
  case load ty a => show give st (loadAt P ty st (evO t a)) = give st (loadAt P ty st (evO t' a)); rw [h a (by simp)]
  case store ty a x => show done (storeAt P ty st (evO t a) (evO t x)) = done (storeAt P ty st (evO t' a) (evO t' x)); rw [h a (by simp), h x (by simp)]
  case nilCheck x => show notNil st (evO t x) = notNil st (evO t' x); rw [h x (by simp)]
  case binOp op ty x y ty' => show give st (binOp P ty (isK x || isK y) op (evO t x) (evO t y)) = give st (binOp P ty (isK x || isK y) op (evO t' x) (evO t' y)); rw [h x (by simp), h y (by simp)]
  case unOp op ty x => show give st (unOp op (evO t x)) = give st (unOp op (evO t' x)); rw [h x (by simp)]
  case convert s d x => show conv P st s d (evO t x) = conv P st s d (evO t' x); rw [h x (by simp)]
  case makeInterface xt x =>
    show opMakeInterface xt x P S t st = opMakeInterface xt x P S t' st
    unfold opMakeInterface
    rw [h x (by simp)]
  case makeFunc fn a b =>
    have ha : args t a.toList = args t' a.toList := args_congr fun x hx => h x (by simp at hx ⊢; exact .inl hx)
    have hb : args t b.toList = args t' b.toList := args_congr fun x hx => h x (by simp at hx ⊢; exact .inr hx)
    show @Bool.rec (fun _ => Res) none (some (.f fn (args t a.toList) (args t b.toList), st)) (notY fn) = @Bool.rec (fun _ => Res) none (some (.f fn (args t' a.toList) (args t' b.toList), st)) (notY fn)
    rw [ha, hb]
  case makeChan ty x =>
    show opMakeChan ty x P S t st = opMakeChan ty x P S t' st
    unfold opMakeChan
    rw [h x (by simp)]
  case send ch x => show sendOf st (evO t x) (evO t ch) = sendOf st (evO t' x) (evO t' ch); rw [h x (by simp), h ch (by simp)]
  case select cs bl =>
    show opSelect cs bl P S t st = opSelect cs bl P S t' st
    unfold opSelect
    split
    · rename_i _ s hcs
      have hcs' : cs = #[s] := by rw [← Array.toArray_toList (xs := cs), hcs]
      have : evO t s.chan = evO t' s.chan := h s.chan (by rw [hcs']; simp)
      rw [this]
    · rfl
  case makeSlice ty l c =>
    show opMakeSlice ty l c P S t st = opMakeSlice ty l c P S t' st
    unfold opMakeSlice
    rw [h l (by simp), h c (by simp)]
  case slice ty x lo hi mx =>
    have h0 := h x (by simp)
    have h1 : lo.map (evO t) = lo.map (evO t') := optMap_congr fun y hy => h y (by subst hy; simp)
    have h2 : hi.map (evO t) = hi.map (evO t') := optMap_congr fun y hy => h y (by subst hy; simp)
    have h3 : mx.map (evO t) = mx.map (evO t') := optMap_congr fun y hy => h y (by subst hy; simp)
    show give st (sliceR P st ty (evO t x) (lo.map (evO t)) (hi.map (evO t)) (mx.map (evO t))) = give st (sliceR P st ty (evO t' x) (lo.map (evO t')) (hi.map (evO t')) (mx.map (evO t')))
    rw [h0, h1, h2, h3]
  case fieldAddr s x n =>
    show opFieldAddr s x n P S t st = opFieldAddr s x n P S t' st
    unfold opFieldAddr
    rw [h x (by simp)]
  case field s x n =>
    show opField s x n P S t st = opField s x n P S t' st
    unfold opField
    rw [h x (by simp)]
  case indexAddr ty x ix => show give st (indexAddr P ty (evO t x) (evO t ix)) = give st (indexAddr P ty (evO t' x) (evO t' ix)); rw [h x (by simp), h ix (by simp)]
  case index ty x ix => show give st (index P ty (evO t x) (evO t ix)) = give st (index P ty (evO t' x) (evO t' ix)); rw [h x (by simp), h ix (by simp)]
  case lookup ty x ix ok => show give st (lookup P ty st (evO t x) (evO t ix) ok) = give st (lookup P ty st (evO t' x) (evO t' ix) ok); rw [h x (by simp), h ix (by simp)]
  case mapUpdate ty m k x => show done (mapUpdate P ty st (evO t m) (evO t k) (evO t x)) = done (mapUpdate P ty st (evO t' m) (evO t' k) (evO t' x)); rw [h m (by simp), h k (by simp), h x (by simp)]
  case range ty x => show rangeOf P ty st (evO t x) = rangeOf P ty st (evO t' x); rw [h x (by simp)]
  case next x s => show nextOf st s (evO t x) = nextOf st s (evO t' x); rw [h x (by simp)]
  case entry x => show entryOf st (evO t x) = entryOf st (evO t' x); rw [h x (by simp)]
  case typeAssert x xt as ok => show assertOf P as ok st (evO t x) = assertOf P as ok st (evO t' x); rw [h x (by simp)]
  case extract x n => show nth n st (evO t x) = nth n st (evO t' x); rw [h x (by simp)]
  case call c =>
    have ha : args t c.args.toList = args t' c.args.toList := args_congr fun x hx => h x (by simp at hx; simp [Call.operands, hx])
    show opCall c P S t st = opCall c P S t' st
    unfold opCall
    rw [ha]
    cases hc : c.callee with
    | builtin b => rfl
    | value f => simp only; rw [h f (by simp [Call.operands, hc])]
    | invoke r m => simp only; rw [h r (by simp [Call.operands, hc])]

/-- A tree with some numbers alone. -/
def only (t : Tr AV) : List Tmp → Tr AV
  | [] => .lf
  | x :: l => (only t l).set x (t.get x)

theorem only_get (t : Tr AV) : ∀ (l : List Tmp) (x : Tmp), (only t l).get x = if x ∈ l then t.get x else none
  | [], x => by simp [only, Tr.get_lf]
  | y :: l, x => by
    unfold only
    rw [Tr.get_set, only_get t l x]
    by_cases h : x = y
    · subst h; simp
    · simp [h]

section
variable {P : Program} {S : Self} {w : World} {E : Env} {st : St} {nt : Nat}

/-- What an operation looks at is as the text says: then so is what it does, and whether it is wanted. -/
theorem looks_spec {ops : Array Oper} {o : Oper} {t : Tr AV} {a : Act} (hsz : a.tmps.size = nt) (h : ∀ x ∈ o.looksAt ops, Conc E (tget t x) (a.tmps.getD x undef)) :
    (∀ r, guardOk ops t o = some r → Region.wanted o (yielded ops a.tmps) = r) ∧
    ∃ (t' : Tr AV) (ρ : Operand → Value), (∀ x, Conc E (evO t' x) (ρ x)) ∧ (∀ st, evOp P S t' st o = evOp P S t st o) ∧ ((∀ cs b, o.op ≠ .select cs b) → execOp ρ o = execOp a.eval o) := by
  let L := o.looksAt ops
  let t' := only t L
  let a' : Act := { tmps := (Array.range nt).map (fun i => if i ∈ L then a.tmps.getD i undef else undef), defers := a.defers }
  have hget : ∀ x, a'.tmps.getD x undef = if x ∈ L then a.tmps.getD x undef else undef := by
    intro x
    rw [Array.getD_eq_getD_getElem?]
    by_cases hx : x < nt
    · simp [a', hx]
    · have e1 : a'.tmps[x]? = none := by simp [a', hx]
      have e2 : a.tmps[x]? = none := by simp [hsz]; omega
      rw [e1]
      simp [Array.getD_eq_getD_getElem?, e2]
  have hT : ConcT E nt t' a'.tmps := by
    refine ⟨by simp [a'], fun x => ?_⟩
    rw [hget]
    unfold tget
    rw [only_get]
    by_cases hx : x ∈ L
    · rw [if_pos hx, if_pos hx]; exact h x hx
    · rw [if_neg hx, if_neg hx]; exact .un
  have hev : ∀ x, x ∈ o.op.operands → evO t' x = evO t x := by
    intro x hx
    cases x with
    | tmp y =>
      have : y ∈ L := List.mem_append_left _ (List.mem_filterMap.2 ⟨.tmp y, by simpa using hx, rfl⟩)
      show (match t'.get y with | some v => v | none => .un) = (match t.get y with | some v => v | none => .un)
      rw [only_get, if_pos this]
    | _ => rfl
  have hea : ∀ x, x ∈ o.op.operands → a'.eval x = a.eval x := by
    intro x hx
    cases x with
    | tmp y =>
      have : y ∈ L := List.mem_append_left _ (List.mem_filterMap.2 ⟨.tmp y, by simpa using hx, rfl⟩)
      have := hget y
      rw [if_pos (by assumption)] at this
      exact this
    | _ => rfl
  refine ⟨fun r hr => ?_, t', a'.eval, evO_conc hT, fun st => evOp_congr hev, fun hs => execOp_congr o hs hea⟩
  have hg : guardOk ops t' o = some r := by
    rw [← hr]
    unfold guardOk
    cases hgd : o.guard with
    | none => rfl
    | some gw =>
      obtain ⟨g, want⟩ := gw
      simp only
      unfold guardBy
      cases hog : ops[g]? with
      | none => rfl
      | some og =>
        simp only
        cases hd : og.dst with
        | none => rfl
        | some d =>
          have : d ∈ L := List.mem_append_right _ (by simp [hgd, hog, hd])
          simp only [t', only_get, if_pos this]
  rw [← guard_spec (a := a') hT hg]
  unfold Region.wanted
  cases hgd : o.guard with
  | none => rfl
  | some gw =>
    obtain ⟨g, want⟩ := gw
    have hy : yielded ops a.tmps g = yielded ops a'.tmps g := by
      unfold yielded
      cases hog : (ops[g]?).bind (·.dst) with
      | none => rfl
      | some d =>
        have hd : d ∈ L := List.mem_append_right _ (by simp [hgd, hog])
        have := hget d
        rw [if_pos hd] at this
        by_cases hlt : d < nt
        · have e1 : a.tmps[d]? = some (a.tmps.getD d undef) := by
            rw [Array.getD_eq_getD_getElem?]
            have : d < a.tmps.size := Nat.lt_of_lt_of_eq hlt hsz.symm
            simp [this]
          have e2 : a'.tmps[d]? = some (a'.tmps.getD d undef) := by
            rw [Array.getD_eq_getD_getElem?]
            have : d < a'.tmps.size := by simp [a', hlt]
            simp [this]
          simp only [Option.bind_some, e1, e2, this]
        · have hsz' : a'.tmps.size = nt := by simp [a']
          have hx' : nt ≤ d := Nat.le_of_not_lt hlt
          have e1 : a.tmps[d]? = none := Array.getElem?_eq_none (by rw [hsz]; exact hx')
          have e2 : a'.tmps[d]? = none := Array.getElem?_eq_none (by rw [hsz']; exact hx')
          simp only [Option.bind_some, e1, e2]
    simp only [hy]

/-- A block that no row has becomes a row. -/
theorem Step.reg {E0 : Env} {H0 H : Array Obj} {st0 X X' : St} (h : Step E0 E H0 H st0 X) {r : Nat} {B : Blk} {row : Row} (hphi : E.phi r = none) (hget : X.get r = none) (hr : r < X.next)
    (hmem : ∀ g al, X.live.get g = some al → r ∉ al) (hlr : X.live.get r = none)
    (hget' : ∀ x, X'.get x = if x = r then some row else X.get x) (hnext : X'.next = X.next) (hlive' : ∀ g, X'.live.get g = X.live.get g ∨ (g = r ∧ X'.live.get g = some [r]))
    (hce : ∀ l g, row = .ce l g → g = r) (hB : H0.size ≤ B.b) (hi : E0.imm B.b = none) (hun : ¬ Owned E X B.b) (hrow : RowOK E H B row) : Step E0 (E.bind r B) H0 H st0 X' := by
  have hle : E.le (E.bind r B) := Env.le_bind hphi
  have hh := h.rel
  have hal : ∀ x y, X'.alive x = some y → (x = r ∧ y = row) ∨ (x ≠ r ∧ X.alive x = some y) := by
    intro x y hx
    by_cases e : x = r
    · left
      have := Rel.alive_get hx
      rw [hget', if_pos e] at this
      exact ⟨e, (Option.some.inj this).symm⟩
    · right
      refine ⟨e, ?_⟩
      unfold St.alive at hx ⊢
      rw [hget', if_neg e] at hx
      cases hg : X.get x with
      | none => rw [hg] at hx; exact hx
      | some w =>
        rw [hg] at hx
        cases w with
        | ce l g =>
          simp only at hx ⊢
          rcases hlive' g with hq | ⟨rfl, hq⟩
          · rw [hq] at hx; exact hx
          · rw [hq] at hx
            have : mem x [g] = false := by
              cases hm : mem x [g] with
              | false => rfl
              | true => rw [mem_iff] at hm; simp at hm; exact absurd hm e
            simp [this] at hx
        | mp => exact hx
        | si => exact hx
        | mi => exact hx
        | lp => exact hx
        | mu => exact hx
        | ch => exact hx
        | ty => exact hx
  have hunB : ∀ x y C, X.alive x = some y → E.phi x = some C → C.b ≠ B.b := fun x y C hx hC hb => hun ⟨x, y, C, hx, hC, hb⟩
  refine ⟨h.le.trans hle, h.imm, h.top, ⟨hh.imm, ?_, ?_, ?_, ?_, ?_, ?_, ?_, ?_, fun x t r0 q hx => by
    rw [hget'] at hx
    split at hx
    · cases hx; exact (show False from hrow).elim
    · exact (hh.tys x t r0 q hx).mono hle (TyKeep.refl H)⟩, h.fr.size, h.fr.keep, ?_⟩
  · intro x hx ht
    rw [Env.bind_ne (by omega)]; exact hh.fresh x (by omega) ht
  · intro x hx
    rw [hget', if_neg (by omega)]; exact hh.freshRow x (by omega)
  · intro g hg
    rcases hlive' g with hq | ⟨rfl, _⟩
    · rw [hq]; exact hh.freshG g (by omega)
    · omega
  · intro g al x hg hx
    rcases hlive' g with hq | ⟨rfl, hq⟩
    · rw [hq] at hg; have := hh.liveLt g al x hg hx; omega
    · rw [hq] at hg; cases hg; simp at hx; omega
  · intro x y hx
    rcases hal x y hx with ⟨rfl, rfl⟩ | ⟨hne, hx'⟩
    · exact ⟨_, Env.bind_self, hrow.mono hle rfl⟩
    · obtain ⟨C, hC, hR⟩ := hh.rows x y hx'
      exact ⟨C, by rw [Env.bind_ne hne]; exact hC, hR.mono hle rfl⟩
  · intro x y C hx hC
    rcases hal x y hx with ⟨rfl, rfl⟩ | ⟨hne, hx'⟩
    · rw [Env.bind_self] at hC; cases hC
      show E.imm B.b = none
      rw [h.imm]; exact hi
    · rw [Env.bind_ne hne] at hC; exact hh.own x y C hx' hC
  · intro x x' y y' C C' hx hx' hC hC' hb
    rcases hal x y hx with ⟨rfl, rfl⟩ | ⟨hne, hx1⟩ <;> rcases hal x' y' hx' with ⟨rfl, rfl⟩ | ⟨hne', hx1'⟩
    · exact .inl rfl
    · rw [Env.bind_self] at hC; cases hC
      rw [Env.bind_ne hne'] at hC'
      exact absurd hb.symm (hunB _ _ _ hx1' hC')
    · rw [Env.bind_self] at hC'; cases hC'
      rw [Env.bind_ne hne] at hC
      exact absurd hb (hunB _ _ _ hx1 hC)
    · rw [Env.bind_ne hne] at hC; rw [Env.bind_ne hne'] at hC'
      exact hh.sep x x' y y' C C' hx1 hx1' hC hC' hb
  · intro g al hg
    rcases hlive' g with hq | ⟨rfl, hq⟩
    · rw [hq] at hg
      refine (hh.ends g al hg).imp_of_mem ?_
      intro x y hx hy hxy lx ly Bx By h1 h2 h3 h4 h5
      have hxn : x ≠ r := by rintro rfl; exact hmem g al hg hx
      have hyn : y ≠ r := by rintro rfl; exact hmem g al hg hy
      rw [hget', if_neg hxn] at h1; rw [hget', if_neg hyn] at h2
      rw [Env.bind_ne hxn] at h3; rw [Env.bind_ne hyn] at h4
      exact hxy lx ly Bx By h1 h2 h3 h4 h5
    · rw [hq] at hg; cases hg; simp
  · rintro b ⟨x, y, C, hx, hC, rfl⟩
    rcases hal x y hx with ⟨rfl, rfl⟩ | ⟨hne, hx'⟩
    · rw [Env.bind_self] at hC; cases hC; exact .inl hB
    · rw [Env.bind_ne hne] at hC
      exact h.fr.own _ ⟨x, y, C, hx', hC, rfl⟩

/-- The same rows under other trees; more numbers taken. -/
theorem St.alive_ext {X Y : St} (hg : ∀ r, Y.get r = X.get r) (hl : ∀ g, Y.live.get g = X.live.get g) (r : Nat) : Y.alive r = X.alive r := by
  unfold St.alive
  rw [hg]
  cases X.get r with
  | none => rfl
  | some w => cases w <;> first | rfl | (simp only [hl])

theorem Step.ext {E0 : Env} {H0 H : Array Obj} {st0 X Y : St} (h : Step E0 E H0 H st0 X) (hg : ∀ r, Y.get r = X.get r) (hl : ∀ g, Y.live.get g = X.live.get g) (hn : X.next ≤ Y.next) : Step E0 E H0 H st0 Y := by
  have hh := h.rel
  have ha := St.alive_ext hg hl
  refine ⟨h.le, h.imm, h.top, ⟨hh.imm, fun r hr ht => hh.fresh r (by omega) ht, fun r hr => by rw [hg]; exact hh.freshRow r (by omega), fun g hr => by rw [hl]; exact hh.freshG g (by omega),
    fun g al x hal hx => ?_, fun r row hr => hh.rows r row (by rw [← ha]; exact hr), fun r row B hr => hh.own r row B (by rw [← ha]; exact hr), fun r r' row row' B B' h1 h2 => hh.sep r r' row row' B B' (by rw [← ha]; exact h1) (by rw [← ha]; exact h2), fun g al hal => ?_, fun x t r0 q hx => hh.tys x t r0 q (by rw [← hg]; exact hx)⟩, h.fr.size, h.fr.keep, ?_⟩
  · rw [hl] at hal; have := hh.liveLt g al x hal hx; omega
  · rw [hl] at hal
    refine (hh.ends g al hal).imp ?_
    intro x y hxy lx ly Bx By h1 h2
    rw [hg] at h1 h2
    exact hxy lx ly Bx By h1 h2
  · rintro b ⟨r, row, B, hr, hB, hb⟩
    exact h.fr.own b ⟨r, row, B, by rw [← ha]; exact hr, hB, hb⟩

end

end

end Go.Ev
