/- Guards, slots. -/
import Derived.Test.YtgjbgebejiapmaaGreatDoorEvSelf
namespace Go.Ev

noncomputable section

section
variable {E : Env} {nt : Nat} {t : Tr AV} {a : Act} {ops : Array Oper}

theorem guard_spec (h : ConcT E nt t a.tmps) {o : Oper} {r : Bool} (hg : guardOk ops t o = some r) : Region.wanted o (yielded ops a.tmps) = r := by
  unfold guardOk at hg
  unfold Region.wanted
  split at hg
  · rename_i ho
    cases hg; rw [ho]
  · rename_i j want ho
    rw [ho]
    simp only
    unfold guardBy at hg
    split at hg
    · rename_i g hj
      split at hg
      · rename_i d hd
        have hc := h.2 d
        unfold yielded
        rw [hj]
        simp only [Option.bind_some, hd]
        unfold tget at hc
        have hget : ∀ v : Value, a.tmps.getD d undef = v → v ≠ undef → a.tmps[d]? = some v := by
          intro v e hv
          rw [Array.getD_eq_getD_getElem?] at e
          cases hx : a.tmps[d]? with
          | none => rw [hx] at e; simp at e; exact absurd e.symm hv
          | some y => rw [hx] at e; simp at e; rw [e]
        have hund : a.tmps.getD d undef = undef → ∀ y, a.tmps[d]? = some y → y = undef := by
          intro e y hx
          rw [Array.getD_eq_getD_getElem?, hx] at e
          simpa using e
        cases ht : t.get d with
        | none =>
          rw [ht] at hg hc
          cases hg
          generalize hv : a.tmps.getD d undef = v at hc
          cases hc
          cases hy : a.tmps[d]? with
          | none => simp
          | some y => have := hund hv y hy; subst this; simp [undef]
        | some x =>
          rw [ht] at hg hc
          simp only at hc
          unfold guardV at hg
          simp only at hg
          cases hb : x.asB with
          | some bb =>
            rw [hb] at hg
            simp only [Option.some.injEq] at hg
            have := AV.asB_some hb; subst this
            generalize hv : a.tmps.getD d undef = v at hc
            cases hc
            rw [hget _ hv (by simp [undef])]
            simp [← hg]
          | none =>
            rw [hb] at hg
            cases hu : x.isUn with
            | false => rw [hu] at hg; cases hg
            | true =>
              rw [hu] at hg; cases hg
              have := AV.isUn_true hu; subst this
              generalize hv : a.tmps.getD d undef = v at hc
              cases hc
              cases hy : a.tmps[d]? with
              | none => simp
              | some y => have := hund hv y hy; subst this; simp [undef]
      · cases hg
    · cases hg

theorem put_spec (h : ConcT E nt t a.tmps) {d : Option Tmp} {v : AV} {t' : Tr AV} (hp : putT nt t d v = some t') {z : Value} (hc : Conc E v z) : ConcT E nt t' (a.put d z).tmps := by
  cases d with
  | none => cases hp; exact h
  | some d =>
    unfold putT at hp
    obtain ⟨hlt, hp⟩ := brec hp
    rw [AV.seen_eq] at hp
    cases hp
    have hlt' : d < nt := by simpa [Nat.blt_eq] using hlt
    refine ⟨by simpa [Act.put] using h.1, fun x => ?_⟩
    unfold tget
    rw [Tr.get_set]
    simp only [Act.put, Array.getD_eq_getD_getElem?]
    by_cases e : x = d
    · subst e
      rw [if_pos rfl, Array.getElem?_setIfInBounds_self]
      have : x < a.tmps.size := by rw [h.1]; exact hlt'
      simpa [this] using hc
    · rw [if_neg e, Array.getElem?_setIfInBounds_ne (Ne.symm e)]
      have := h.2 x
      unfold tget at this
      rwa [Array.getD_eq_getD_getElem?] at this

end

end

end Go.Ev
