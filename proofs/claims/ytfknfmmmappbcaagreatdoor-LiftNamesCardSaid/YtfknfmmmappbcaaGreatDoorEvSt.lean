/- Rows given up and taken back, blocks that no row has: good steps. -/
import Derived.Test.YtfknfmmmappbcaaGreatDoorEvRel2
namespace Go.Ev

noncomputable section

section
variable {E : Env} {H : Array Obj} {st : St}

theorem St.get_drop (st : St) (r x : Nat) : (st.drop r).get x = if x = r then none else st.get x := by simp [St.drop, St.get, Tr.get_set]
theorem St.get_put (st : St) (r : Nat) (row : Row) (x : Nat) : (st.put r row).get x = if x = r then some row else st.get x := by simp [St.put, St.get, Tr.get_set]

theorem drop_alive {r x : Nat} {row : Row} (h : (st.drop r).alive x = some row) : x ≠ r ∧ st.alive x = some row := by
  have hx : x ≠ r := by
    rintro rfl
    have := Rel.alive_get h
    rw [St.get_drop, if_pos rfl] at this; cases this
  refine ⟨hx, ?_⟩
  unfold St.alive at h ⊢
  rw [St.get_drop, if_neg hx] at h
  exact h

theorem drop_alive' {r x : Nat} {row : Row} (hx : x ≠ r) (h : st.alive x = some row) : (st.drop r).alive x = some row := by
  unfold St.alive at h ⊢
  rw [St.get_drop, if_neg hx]
  exact h

/-- A row given up. -/
theorem Step.drop (h : Rel E H st) (r : Nat) : Step E E H H st (st.drop r) := by
  refine ⟨.refl E, rfl, rfl, ⟨h.imm, h.fresh, ?_, h.freshG, h.liveLt, ?_, ?_, ?_, ?_⟩, Nat.le_refl _, fun _ _ _ => rfl, ?_⟩
  · intro x hx
    rw [St.get_drop]
    split
    · rfl
    · exact h.freshRow x hx
  · intro x row hx; exact h.rows x row (drop_alive hx).2
  · intro x row B hx hB; exact h.own x row B (drop_alive hx).2 hB
  · intro x y row row' B B' hx hy hB hB' hb; exact h.sep x y row row' B B' (drop_alive hx).2 (drop_alive hy).2 hB hB' hb
  · intro g al hg
    refine (h.ends g al hg).imp ?_
    intro x y hxy lx ly Bx By h1 h2
    rw [St.get_drop] at h1 h2
    split at h1
    · cases h1
    · split at h2
      · cases h2
      · exact hxy lx ly Bx By h1 h2
  · rintro b ⟨x, row, B, hx, hB, rfl⟩
    exact .inr ⟨x, row, B, (drop_alive hx).2, hB, rfl⟩

/-- A block that no row has is made. -/
theorem Step.other (h : Rel E H st) (o : Obj) : Step E E H (H.push o) st st := by
  have hold : ∀ b, b < H.size → (H.push o)[b]? = H[b]? := fun b hb => by simp [Array.getElem?_push, Nat.ne_of_lt hb]
  refine ⟨.refl E, rfl, rfl, ⟨?_, h.fresh, h.freshRow, h.freshG, h.liveLt, ?_, h.own, h.sep, h.ends⟩, by simp, fun b hb _ => hold b hb, fun _ h => .inr h⟩
  · intro b o' hb; rw [hold b (h.imm_lt hb)]; exact h.imm b o' hb
  · intro r row hr
    obtain ⟨B, hB, hR⟩ := h.rows r row hr
    exact ⟨B, hB, hR.mono (.refl E) (hold _ hR.lt)⟩

/-- A block that no row has, but had a row before, is changed. -/
theorem Step.poke {E' : Env} {H' : Array Obj} {st' : St} (h : Step E E' H H' st st') {b : Nat} (hb : Owned E st b ∨ H.size ≤ b) (hn : ¬ Owned E' st' b) (hi : E.imm b = none) (o : Obj) : Step E E' H (H'.setIfInBounds b o) st st' := by
  have hold : ∀ c, c ≠ b → (H'.setIfInBounds b o)[c]? = H'[c]? := fun c hc => by rw [Array.getElem?_setIfInBounds_ne (Ne.symm hc)]
  have hr := h.rel
  refine ⟨h.le, h.imm, h.top, ⟨?_, hr.fresh, hr.freshRow, hr.freshG, hr.liveLt, ?_, hr.own, hr.sep, hr.ends⟩, by simpa using h.fr.size, ?_, h.fr.own⟩
  · intro c o' hc
    have : c ≠ b := by rintro rfl; rw [h.imm, hi] at hc; cases hc
    rw [hold c this]; exact hr.imm c o' hc
  · intro r row hrow
    obtain ⟨B, hB, hR⟩ := hr.rows r row hrow
    refine ⟨B, hB, hR.mono (.refl E') (hold _ ?_)⟩
    rintro rfl; exact hn ⟨r, row, B, hrow, hB, rfl⟩
  · intro c hc ho
    have : c ≠ b := by
      rintro rfl
      rcases hb with hb | hb
      · exact ho hb
      · omega
    rw [hold c this]; exact h.fr.keep c hc ho

theorem put_alive {r x : Nat} {row w : Row} (hce : ∀ l g, row ≠ .ce l g) (h : (st.put r row).alive x = some w) : (x = r ∧ w = row) ∨ (x ≠ r ∧ st.alive x = some w) := by
  by_cases e : x = r
  · left
    have := Rel.alive_get h
    rw [St.get_put, if_pos e] at this
    cases this; exact ⟨e, rfl⟩
  · right
    refine ⟨e, ?_⟩
    unfold St.alive at h ⊢
    rw [St.get_put, if_neg e] at h
    exact h

/-- A row taken back. -/
theorem Step.adopt {E' : Env} {H' : Array Obj} {st' : St} (h : Step E E' H H' st st') {r : Nat} {row : Row} {B : Blk} (hce : ∀ l g, row ≠ .ce l g) (hr : r < st'.next) (hB : E'.phi r = some B) (hrow : RowOK E' H' B row)
    (hb : Owned E st B.b ∨ H.size ≤ B.b) (hn : ¬ Owned E' st' B.b) (hi : E.imm B.b = none) : Step E E' H H' st (st'.put r row) := by
  have hh := h.rel
  refine ⟨h.le, h.imm, h.top, ⟨hh.imm, hh.fresh, ?_, hh.freshG, hh.liveLt, ?_, ?_, ?_, ?_⟩, h.fr.size, h.fr.keep, ?_⟩
  · intro x hx
    have hx' : st'.next ≤ x := hx
    rw [St.get_put, if_neg (by omega)]; exact hh.freshRow x hx'
  · intro x w hx
    rcases put_alive hce hx with ⟨rfl, rfl⟩ | ⟨_, hx⟩
    · exact ⟨B, hB, hrow⟩
    · exact hh.rows x w hx
  · intro x w C hx hC
    rcases put_alive hce hx with ⟨rfl, rfl⟩ | ⟨_, hx⟩
    · rw [hB] at hC; cases hC; rw [h.imm]; exact hi
    · exact hh.own x w C hx hC
  · intro x y w w' C C' hx hy hC hC' hbb
    rcases put_alive hce hx with ⟨rfl, rfl⟩ | ⟨_, hx1⟩ <;> rcases put_alive hce hy with ⟨rfl, rfl⟩ | ⟨_, hy1⟩
    · exact .inl rfl
    · rw [hB] at hC; cases hC; exact absurd ⟨y, w', C', hy1, hC', hbb.symm⟩ hn
    · rw [hB] at hC'; cases hC'; exact absurd ⟨x, w, C, hx1, hC, hbb⟩ hn
    · exact hh.sep x y w w' C C' hx1 hy1 hC hC' hbb
  · intro g al hg
    refine (hh.ends g al hg).imp ?_
    intro x y hxy lx ly Bx By h1 h2
    rw [St.get_put] at h1 h2
    split at h1
    · exact absurd (Option.some.inj h1) (hce _ _)
    · split at h2
      · exact absurd (Option.some.inj h2) (hce _ _)
      · exact hxy lx ly Bx By h1 h2
  · rintro b ⟨x, w, C, hx, hC, rfl⟩
    rcases put_alive hce hx with ⟨rfl, rfl⟩ | ⟨_, hx⟩
    · rw [hB] at hC; cases hC; exact hb.symm
    · exact h.fr.own _ ⟨x, w, C, hx, hC, rfl⟩

/-- A block that had no row has none, as long as it is old. -/
theorem Step.unowned {E' : Env} {H' : Array Obj} {st' : St} (h : Step E E' H H' st st') {b : Nat} (hb : b < H.size) (hn : ¬ Owned E st b) : ¬ Owned E' st' b := fun ho => by
  rcases h.fr.own b ho with hh | hh
  · omega
  · exact hn hh

theorem drop_unowned (h : Rel E H st) {r : Nat} {row : Row} {B : Blk} (ha : st.alive r = some row) (hce : ∀ l g, row ≠ .ce l g) (hB : E.phi r = some B) : ¬ Owned E (st.drop r) B.b := by
  rintro ⟨x, w, C, hx, hC, hb⟩
  obtain ⟨hne, hx⟩ := drop_alive hx
  rcases h.sep x r w row C B hx ha hC hB hb with rfl | ⟨g, l, l', _, rfl⟩
  · exact hne rfl
  · exact hce _ _ rfl

/-- What lies behind a block's cells is frozen. -/
theorem Step.frost (h : Rel E H st) {b : Nat} {cs : Array Value} {t : TypeId} {fz fz' : Nat × Nat} (hb : H[b]? = some (.cells cs t fz)) (ho : Owned E st b) (hi : E.imm b = none) (hz : FzOk cs.size fz → FzOk cs.size fz') :
    Step E E H (H.setIfInBounds b (.cells cs t fz')) st st := by
  have hlt : b < H.size := (Array.getElem?_eq_some_iff.1 hb).1
  have hold : ∀ c, c ≠ b → (H.setIfInBounds b (.cells cs t fz'))[c]? = H[c]? := fun c hc => by rw [Array.getElem?_setIfInBounds_ne (Ne.symm hc)]
  have hnew : (H.setIfInBounds b (.cells cs t fz'))[b]? = some (.cells cs t fz') := by simp [hlt]
  refine ⟨.refl E, rfl, rfl, ⟨?_, h.fresh, h.freshRow, h.freshG, h.liveLt, ?_, h.own, h.sep, h.ends⟩, by simp, ?_, fun _ h => .inr h⟩
  · intro c o' hc
    have : c ≠ b := by rintro rfl; rw [hi] at hc; cases hc
    rw [hold c this]; exact h.imm c o' hc
  · intro r row hr
    obtain ⟨B, hB, hR⟩ := h.rows r row hr
    refine ⟨B, hB, ?_⟩
    by_cases e : B.b = b
    · cases row with
      | ce l g =>
        obtain ⟨cs', t', fz1, a1, a2, a3, a4, a5⟩ := hR
        rw [e, hb] at a1
        cases a1
        exact ⟨cs, t, fz', by rw [e]; exact hnew, hz a2, a3, a4, a5⟩
      | mp => obtain ⟨_, a1, _⟩ := hR; rw [e, hb] at a1; cases a1
      | si => obtain ⟨_, _, a1, _⟩ := hR; rw [e, hb] at a1; cases a1
      | mi => obtain ⟨_, _, a1, _⟩ := hR; rw [e, hb] at a1; cases a1
      | lp => obtain ⟨_, _, _, a1, _⟩ := hR; rw [e, hb] at a1; cases a1
      | mu => obtain ⟨_, _, _, a1, _⟩ := hR; rw [e, hb] at a1; cases a1
      | ch => obtain ⟨_, _, _, a1, _⟩ := hR; rw [e, hb] at a1; cases a1
    · exact hR.mono (.refl E) (hold _ e)
  · intro c hc hn
    exact hold c fun e => hn (e ▸ ho)

end

end

end Go.Ev
