/- Rows given up and taken back, blocks that no row has: good steps. -/
import Derived.Test.YtgjbgebejiapmaaGreatDoorEvRel2
namespace Go.Ev

noncomputable section

section
variable {E : Env} {H : Array Obj} {st : St}

theorem St.get_drop (st : St) (r x : Nat) : (st.drop r).get x = if x = r then none else st.get x := by simp [St.drop, St.get, Tr.get_set]
theorem St.get_put (st : St) (r : Nat) (row : Row) (x : Nat) : (st.put r row).get x = if x = r then some row else st.get x := by simp [St.put, St.get, Tr.get_set]

theorem drop_alive {r x : Nat} {row : Row} (h : (st.drop r).alive x = some row) : x ≠ r ∧ st.alive x = some row := by
  have hx : x ≠ r := by
    rintro rfl
    have := Rel.alive_get h
    rw [St.get_drop, if_pos rfl] at this; cases this
  refine ⟨hx, ?_⟩
  unfold St.alive at h ⊢
  rw [St.get_drop, if_neg hx] at h
  exact h

theorem drop_alive' {r x : Nat} {row : Row} (hx : x ≠ r) (h : st.alive x = some row) : (st.drop r).alive x = some row := by
  unfold St.alive at h ⊢
  rw [St.get_drop, if_neg hx]
  exact h

/-- A row given up. -/
theorem Step.drop (h : Rel E H st) (r : Nat) : Step E E H H st (st.drop r) := by
  refine ⟨.refl E, rfl, rfl, ⟨h.imm, h.fresh, ?_, h.freshG, h.liveLt, ?_, ?_, ?_, ?_, fun x t r0 q hx => by
    rw [St.get_drop] at hx
    split at hx
    · cases hx
    · exact h.tys x t r0 q hx⟩, Nat.le_refl _, fun _ _ _ => rfl, ?_⟩
  · intro x hx
    rw [St.get_drop]
    split
    · rfl
    · exact h.freshRow x hx
  · intro x row hx; exact h.rows x row (drop_alive hx).2
  · intro x row B hx hB; exact h.own x row B (drop_alive hx).2 hB
  · intro x y row row' B B' hx hy hB hB' hb; exact h.sep x y row row' B B' (drop_alive hx).2 (drop_alive hy).2 hB hB' hb
  · intro g al hg
    refine (h.ends g al hg).imp ?_
    intro x y hxy lx ly Bx By h1 h2
    rw [St.get_drop] at h1 h2
    split at h1
    · cases h1
    · split at h2
      · cases h2
      · exact hxy lx ly Bx By h1 h2
  · rintro b ⟨x, row, B, hx, hB, rfl⟩
    exact .inr ⟨x, row, B, (drop_alive hx).2, hB, rfl⟩

/-- A block that no row has is made. -/
theorem Step.other (h : Rel E H st) (o : Obj) : Step E E H (H.push o) st st := by
  have hold : ∀ b, b < H.size → (H.push o)[b]? = H[b]? := fun b hb => by simp [Array.getElem?_push, Nat.ne_of_lt hb]
  refine ⟨.refl E, rfl, rfl, ⟨?_, h.fresh, h.freshRow, h.freshG, h.liveLt, ?_, h.own, h.sep, h.ends, fun x t r0 q hx => (h.tys x t r0 q hx).mono (.refl E) (TyKeep.push H o)⟩, by simp, fun b hb _ => hold b hb, fun _ h => .inr h⟩
  · intro b o' hb; rw [hold b (h.imm_lt hb)]; exact h.imm b o' hb
  · intro r row hr
    obtain ⟨B, hB, hR⟩ := h.rows r row hr
    exact ⟨B, hB, hR.mono (.refl E) (hold _ hR.lt)⟩

/-- A block that no row has, but had a row before, is changed. -/
theorem Step.poke {E' : Env} {H' : Array Obj} {st' : St} (h : Step E E' H H' st st') {b : Nat} (hb : Owned E st b ∨ H.size ≤ b) (hn : ¬ Owned E' st' b) (hi : E.imm b = none) (o : Obj) (hk : TyKeep H' (H'.setIfInBounds b o)) : Step E E' H (H'.setIfInBounds b o) st st' := by
  have hold : ∀ c, c ≠ b → (H'.setIfInBounds b o)[c]? = H'[c]? := fun c hc => by rw [Array.getElem?_setIfInBounds_ne (Ne.symm hc)]
  have hr := h.rel
  refine ⟨h.le, h.imm, h.top, ⟨?_, hr.fresh, hr.freshRow, hr.freshG, hr.liveLt, ?_, hr.own, hr.sep, hr.ends, fun x t r0 q hx => (hr.tys x t r0 q hx).mono (.refl E') hk⟩, by simpa using h.fr.size, ?_, h.fr.own⟩
  · intro c o' hc
    have : c ≠ b := by rintro rfl; rw [h.imm, hi] at hc; cases hc
    rw [hold c this]; exact hr.imm c o' hc
  · intro r row hrow
    obtain ⟨B, hB, hR⟩ := hr.rows r row hrow
    refine ⟨B, hB, hR.mono (.refl E') (hold _ ?_)⟩
    rintro rfl; exact hn ⟨r, row, B, hrow, hB, rfl⟩
  · intro c hc ho
    have : c ≠ b := by
      rintro rfl
      rcases hb with hb | hb
      · exact ho hb
      · omega
    rw [hold c this]; exact h.fr.keep c hc ho

theorem put_alive {r x : Nat} {row w : Row} (hce : ∀ l g, row ≠ .ce l g) (h : (st.put r row).alive x = some w) : (x = r ∧ w = row) ∨ (x ≠ r ∧ st.alive x = some w) := by
  by_cases e : x = r
  · left
    have := Rel.alive_get h
    rw [St.get_put, if_pos e] at this
    cases this; exact ⟨e, rfl⟩
  · right
    refine ⟨e, ?_⟩
    unfold St.alive at h ⊢
    rw [St.get_put, if_neg e] at h
    exact h

/-- A row taken back. -/
theorem Step.adopt {E' : Env} {H' : Array Obj} {st' : St} (h : Step E E' H H' st st') {r : Nat} {row : Row} {B : Blk} (hce : ∀ l g, row ≠ .ce l g) (hr : r < st'.next) (hB : E'.phi r = some B) (hrow : RowOK E' H' B row)
    (hb : Owned E st B.b ∨ H.size ≤ B.b) (hn : ¬ Owned E' st' B.b) (hi : E.imm B.b = none) : Step E E' H H' st (st'.put r row) := by
  have hh := h.rel
  refine ⟨h.le, h.imm, h.top, ⟨hh.imm, hh.fresh, ?_, hh.freshG, hh.liveLt, ?_, ?_, ?_, ?_, fun x t r0 q hx => by
    rw [St.get_put] at hx
    split at hx
    · cases hx; exact (show False from hrow).elim
    · exact hh.tys x t r0 q hx⟩, h.fr.size, h.fr.keep, ?_⟩
  · intro x hx
    have hx' : st'.next ≤ x := hx
    rw [St.get_put, if_neg (by omega)]; exact hh.freshRow x hx'
  · intro x w hx
    rcases put_alive hce hx with ⟨rfl, rfl⟩ | ⟨_, hx⟩
    · exact ⟨B, hB, hrow⟩
    · exact hh.rows x w hx
  · intro x w C hx hC
    rcases put_alive hce hx with ⟨rfl, rfl⟩ | ⟨_, hx⟩
    · rw [hB] at hC; cases hC; rw [h.imm]; exact hi
    · exact hh.own x w C hx hC
  · intro x y w w' C C' hx hy hC hC' hbb
    rcases put_alive hce hx with ⟨rfl, rfl⟩ | ⟨_, hx1⟩ <;> rcases put_alive hce hy with ⟨rfl, rfl⟩ | ⟨_, hy1⟩
    · exact .inl rfl
    · rw [hB] at hC; cases hC; exact absurd ⟨y, w', C', hy1, hC', hbb.symm⟩ hn
    · rw [hB] at hC'; cases hC'; exact absurd ⟨x, w, C, hx1, hC, hbb⟩ hn
    · exact hh.sep x y w w' C C' hx1 hy1 hC hC' hbb
  · intro g al hg
    refine (hh.ends g al hg).imp ?_
    intro x y hxy lx ly Bx By h1 h2
    rw [St.get_put] at h1 h2
    split at h1
    · exact absurd (Option.some.inj h1) (hce _ _)
    · split at h2
      · exact absurd (Option.some.inj h2) (hce _ _)
      · exact hxy lx ly Bx By h1 h2
  · rintro b ⟨x, w, C, hx, hC, rfl⟩
    rcases put_alive hce hx with ⟨rfl, rfl⟩ | ⟨_, hx⟩
    · rw [hB] at hC; cases hC; exact hb.symm
    · exact h.fr.own _ ⟨x, w, C, hx, hC, rfl⟩

/-- A block that had no row has none, as long as it is old. -/
theorem Step.unowned {E' : Env} {H' : Array Obj} {st' : St} (h : Step E E' H H' st st') {b : Nat} (hb : b < H.size) (hn : ¬ Owned E st b) : ¬ Owned E' st' b := fun ho => by
  rcases h.fr.own b ho with hh | hh
  · omega
  · exact hn hh

theorem drop_unowned (h : Rel E H st) {r : Nat} {row : Row} {B : Blk} (ha : st.alive r = some row) (hce : ∀ l g, row ≠ .ce l g) (hB : E.phi r = some B) : ¬ Owned E (st.drop r) B.b := by
  rintro ⟨x, w, C, hx, hC, hb⟩
  obtain ⟨hne, hx⟩ := drop_alive hx
  rcases h.sep x r w row C B hx ha hC hB hb with rfl | ⟨g, l, l', _, rfl⟩
  · exact hne rfl
  · exact hce _ _ rfl

/-- What lies behind a block's cells is frozen. -/
theorem Step.frost (h : Rel E H st) {b : Nat} {cs : Array Value} {t : TypeId} {fz fz' : Nat × Nat} (hb : H[b]? = some (.cells cs t fz)) (ho : Owned E st b) (hi : E.imm b = none) (hz : FzOk cs.size fz → FzOk cs.size fz') :
    Step E E H (H.setIfInBounds b (.cells cs t fz')) st st := by
  have hlt : b < H.size := (Array.getElem?_eq_some_iff.1 hb).1
  have hold : ∀ c, c ≠ b → (H.setIfInBounds b (.cells cs t fz'))[c]? = H[c]? := fun c hc => by rw [Array.getElem?_setIfInBounds_ne (Ne.symm hc)]
  have hnew : (H.setIfInBounds b (.cells cs t fz'))[b]? = some (.cells cs t fz') := by simp [hlt]
  refine ⟨.refl E, rfl, rfl, ⟨?_, h.fresh, h.freshRow, h.freshG, h.liveLt, ?_, h.own, h.sep, h.ends, fun x t r0 q hx => (h.tys x t r0 q hx).mono (.refl E) (TyKeep.set hb)⟩, by simp, ?_, fun _ h => .inr h⟩
  · intro c o' hc
    have : c ≠ b := by rintro rfl; rw [hi] at hc; cases hc
    rw [hold c this]; exact h.imm c o' hc
  · intro r row hr
    obtain ⟨B, hB, hR⟩ := h.rows r row hr
    refine ⟨B, hB, ?_⟩
    by_cases e : B.b = b
    · cases row with
      | ce l g =>
        obtain ⟨cs', t', fz1, a1, a2, a3, a4, a5⟩ := hR
        rw [e, hb] at a1
        cases a1
        exact ⟨cs, t, fz', by rw [e]; exact hnew, hz a2, a3, a4, a5⟩
      | mp => obtain ⟨_, a1, _⟩ := hR; rw [e, hb] at a1; cases a1
      | si => obtain ⟨_, _, a1, _⟩ := hR; rw [e, hb] at a1; cases a1
      | mi => obtain ⟨_, _, a1, _⟩ := hR; rw [e, hb] at a1; cases a1
      | lp => obtain ⟨_, _, _, a1, _⟩ := hR; rw [e, hb] at a1; cases a1
      | mu => obtain ⟨_, _, _, a1, _⟩ := hR; rw [e, hb] at a1; cases a1
      | ch => obtain ⟨_, _, _, a1, _⟩ := hR; rw [e, hb] at a1; cases a1
      | ty => exact (show False from hR).elim
    · exact hR.mono (.refl E) (hold _ e)
  · intro c hc hn
    exact hold c fun e => hn (e ▸ ho)

/-- The type of a block, told. -/
theorem Step.newTy (h : Rel E H st) {t r0 : Nat} {x : Bool} (ht : TyAt E H t r0 x) : Step E E H H st (st.new (.ty t r0 x)) := by
  have hget : ∀ r, (st.new (.ty t r0 x)).get r = if r = st.next then some (.ty t r0 x) else st.get r := St.get_new st _
  have hal : ∀ {r : Nat} {row : Row}, (st.new (.ty t r0 x)).alive r = some row → st.alive r = some row := by
    intro r row hr
    unfold St.alive at hr ⊢
    rw [hget] at hr
    by_cases e : r = st.next
    · rw [if_pos e] at hr; cases hr
    · rw [if_neg e] at hr; exact hr
  have hce : ∀ {r : Nat} {l : List AV} {g : Nat}, (st.new (.ty t r0 x)).get r = some (.ce l g) → st.get r = some (.ce l g) := by
    intro r l g hr
    rw [hget] at hr
    split at hr
    · cases hr
    · exact hr
  have hnext : (st.new (.ty t r0 x)).next = st.next + 1 := rfl
  refine ⟨.refl E, rfl, rfl, ⟨h.imm, fun r hr => h.fresh r (by omega), fun r hr => ?_, fun g hg => h.freshG g (by omega), fun g al y hg hy => ?_, fun r row hr => h.rows r row (hal hr), fun r row B hr hB => h.own r row B (hal hr) hB,
    fun r r' row row' B B' hr hr' hB hB' hb => h.sep r r' row row' B B' (hal hr) (hal hr') hB hB' hb, fun g al hg => ?_, fun r t' r' q hr => ?_⟩, Nat.le_refl _, fun _ _ _ => rfl, ?_⟩
  · rw [hget, if_neg (by omega)]; exact h.freshRow r (by omega)
  · have := h.liveLt g al y hg hy; omega
  · refine (h.ends g al hg).imp ?_
    intro a b hab la lb Ba Bb h1 h2
    exact hab la lb Ba Bb (hce h1) (hce h2)
  · rw [hget] at hr
    split at hr
    · cases hr; exact ht
    · exact h.tys r t' r' q hr
  · rintro b ⟨r, row, B, hr, hB, rfl⟩
    exact .inr ⟨r, row, B, hal hr, hB, rfl⟩

theorem tyR_get {r t : Nat} {x : Bool} (h : tyR st r = some (t, x)) : st.get (r + 1) = some (.ty t r x) := by
  unfold tyR at h
  split at h
  · rename_i t' r0 x' hg
    cases hb : Nat.beq r0 r with
    | false => rw [hb] at h; cases h
    | true =>
      rw [hb] at h
      cases h
      rw [hg, Nat.eq_of_beq_eq_true hb]
  · cases h

theorem tyIs_at (h : Rel E H st) {r t : Nat} (ht : tyIs st r t = true) : TyAt E H t r true := by
  unfold tyIs at ht
  split at ht
  · rename_i u hu
    rw [← Nat.eq_of_beq_eq_true ht]
    exact h.tys _ _ _ _ (tyR_get hu)
  · cases ht

/-- A family that is forgotten has no row that is alive. -/
theorem kill_dead {r x : Nat} {l l' : List AV} {g : Nat} {al : List Nat} (hr : st.ce r = some (l, g, al)) : (st.kill r).alive x ≠ some (.ce l' g) := by
  intro hx
  have hg := Rel.alive_get hx
  have hk : st.kill r = ⟨st.rows, st.live.set g (some []), st.next⟩ := by unfold St.kill; rw [hr]
  rw [hk] at hx hg
  unfold St.alive at hx
  rw [hg] at hx
  simp only [Tr.get_set, if_pos] at hx
  simp [mem] at hx

/-- What nobody has any more, as a row of cells, may be changed. -/
theorem Step.killSet (h : Rel E H st) {r : Nat} {l : List AV} {g : Nat} {al : List Nat} (hr : st.ce r = some (l, g, al)) {B : Blk} (hB : E.phi r = some B) {cs : Array Value} {t : TypeId} {fz : Nat × Nat} (hH : H[B.b]? = some (.cells cs t fz)) (cs' : Array Value) (fz' : Nat × Nat) :
    Step E E H (H.setIfInBounds B.b (.cells cs' t fz')) st (st.kill r) := by
  obtain ⟨ha, -, -, -⟩ := St.ce_spec hr
  refine (Step.kill h r).poke (.inl ⟨r, _, B, ha, hB, rfl⟩) ?_ (h.own r _ B ha hB) _ (TyKeep.set hH)
  rintro ⟨x, row, C, hx, hC, hb⟩
  have hx' := (kill_alive hx).1
  rcases h.sep x r row _ C B hx' ha hC hB hb with rfl | ⟨g', l1, l2, rfl, h2⟩
  · rw [ha] at hx'; cases hx'
    exact kill_dead hr hx
  · cases h2
    exact kill_dead hr hx

end

end

end Go.Ev
