/- Regions in the text's order. -/
import Derived.Test.YtgjbgebejiapmaaGreatDoorEvDraw1
namespace Go.Ev

noncomputable section

section
variable {P : Program} {S : Self} {w : World} {E : Env} {st : St} {nt n0 : Nat} {b : Frame}

theorem Arr.pre {E1 : Env} {w1 : World} {st1 : St} {m m1 : List Frame → Machine} {k : List Item} {r : Out} (hs : StepW E E1 w w1 st st1) (hm : ∀ cs, Steps P (m cs) (m1 cs)) (h : Arr P n0 E1 nt b w1 st1 m1 k r) :
    Arr P n0 E nt b w st m k r := by
  cases r with
  | nx t st' => obtain ⟨E', a', w', h1, h2, h3, h4⟩ := h; exact ⟨E', a', w', hs.trans h1, h2, h3, fun cs => (hm cs).trans (h4 cs)⟩
  | ex id t st' => obtain ⟨E', a', w', h1, h2, h3, h4⟩ := h; exact ⟨E', a', w', hs.trans h1, h2, h3, fun k' hk cs => (hm cs).trans (h4 k' hk cs)⟩
  | rt t st' => intro hb; obtain ⟨E', a', w', todo, h1, h2, h3, h4⟩ := h hb; exact ⟨E', a', w', todo, hs.trans h1, h2, h3, fun cs => (hm cs).trans (h4 cs)⟩
  | no => trivial

theorem Arr.pre1 {m m1 : List Frame → Machine} {k : List Item} {r : Out} (hr : Rel E w.heap st) (hm : ∀ cs, step P (m cs) = .next (m1 cs)) (h : Arr P n0 E nt b w st m1 k r) :
    Arr P n0 E nt b w st m k r := Arr.pre (.refl hr) (fun cs => Steps.one (hm cs)) h

theorem lim_up {st1 : St} {r : Out} {n : Nat} (h : UpO st1 r) (hl : r.lim n) : r = .no ∨ st1.next ≤ n := by
  cases r with
  | nx t st' => exact .inr (Nat.le_trans (h.1 _ _ rfl) hl)
  | ex i t st' => exact .inr (Nat.le_trans (h.2.1 _ _ _ rfl) hl)
  | rt t st' => exact .inr (Nat.le_trans (h.2.2 _ _ rfl) hl)
  | no => exact .inl rfl

theorem ops_spec (hS : SelfOK P S) {ops : Array Oper} {k : List Item} : ∀ (l : List Oper) (i : Nat), ops.toList.drop i = l → ∀ {E : Env} {w : World} {st : St} {t : Tr AV} {a : Act}, Rel E w.heap st → ConcT E nt t a.tmps → Marks n0 b.defers E w.heap st a.defers →
    (evOps P S nt ops l t st).lim E.top → Arr P n0 E nt b w st (fun cs => lone (b.atR a (.inRegion ops (List.range' i l.length) :: k)) cs w) k (evOps P S nt ops l t st) := by
  intro l
  induction l with
  | nil =>
    intro i hi E w st t a hr ht hm hl
    exact ⟨E, a, w, .refl hr, ht, hm, fun cs => Steps.one stepR_region_end⟩
  | cons o l ih =>
    intro i hi E w st t a hr ht hm hl
    have hoi : ops[i]? = some o := by
      have : (ops.toList.drop i)[0]? = some o := by rw [hi]; rfl
      simpa using this
    have hi' : ops.toList.drop (i + 1) = l := by
      rw [← List.drop_drop, hi]; rfl
    have e : evOps P S nt ops (o :: l) t st = onG P S nt o t st (evOps P S nt ops l) (guardOk ops t o) := rfl
    rw [e] at hl ⊢
    have hrg : List.range' i (o :: l).length = i :: List.range' (i + 1) l.length := by simp [List.range'_succ]
    rw [hrg]
    cases hg : guardOk ops t o with
    | none => rw [hg] at hl; exact trivial
    | some g =>
      rw [hg] at hl
      have hw := guard_spec ht hg
      cases g with
      | false =>
        have e : onG P S nt o t st (evOps P S nt ops l) (some false) = onT (putT nt t o.dst .un) fun t => evOps P S nt ops l t st := rfl
        rw [e] at hl ⊢
        cases hp : putT nt t o.dst .un with
        | none => exact trivial
        | some t1 =>
          rw [hp] at hl
          simp only [onT, Tr.seen_eq] at hl ⊢
          have ht1 : ConcT E nt t1 (a.put o.dst undef).tmps := put_spec ht hp .un
          refine Arr.pre1 hr (fun cs => ?_) (ih (i + 1) hi' (a := a.put o.dst undef) hr ht1 (by rw [put_defers]; exact hm) hl)
          have := stepR_op_skip (P := P) (b := b) (a := a) (k := k) (cs := cs) (w := w) (ops := ops) (i := i) (rest := List.range' (i + 1) l.length) (by simp [hoi, hw])
          rw [hoi] at this
          exact this
      | true =>
        have e : onG P S nt o t st (evOps P S nt ops l) (some true) = onV nt t o.dst (evOp P S t st o) (evOps P S nt ops l) := rfl
        rw [e] at hl ⊢
        cases ho : evOp P S t st o with
        | none => exact trivial
        | some p =>
          obtain ⟨v, st1⟩ := p
          rw [ho] at hl
          have e : onV nt t o.dst (some (v, st1)) (evOps P S nt ops l) = onT (putT nt t o.dst v) fun t => evOps P S nt ops l t st1 := rfl
          rw [e] at hl ⊢
          cases hp : putT nt t o.dst v with
          | none => exact trivial
          | some t1 =>
            rw [hp] at hl
            simp only [onT, Tr.seen_eq] at hl ⊢
            rcases lim_up (upo_evOps hS.up l t1 st1) hl with hno | hn
            · rw [hno]; exact trivial
            · obtain ⟨E', w', cv, hs, hc, hst⟩ := givesC_steps (b := b) (k := k) (rest := List.range' (i + 1) l.length) hoi hw (notDefer ho) (op_all hS hr (evO_conc ht) ho hn)
              have ht1 : ConcT E' nt t1 (a.put o.dst cv).tmps := put_spec (ht.mono hs.le) hp hc
              exact Arr.pre hs hst (ih (i + 1) hi' (a := a.put o.dst cv) hs.rel ht1 (by rw [put_defers]; exact hm.step hs.toStep) (by rw [hs.top]; exact hl))

end

end

end Go.Ev
