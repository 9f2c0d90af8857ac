/- Bodies: a function that the abstract run calls returns. -/
import Derived.Test.YtgjbgebejiapmaaGreatDoorEvDefer
namespace Go.Ev

noncomputable section

section
variable {P : Program} {S : Self} {w : World} {E : Env} {st : St} {nt n0 : Nat} {b : Frame}

theorem tget_tmpsOf : ∀ (l : List AV) (n : Nat) (t : Tr AV) (x : Nat), tget (tmpsOf l n t) x = if n ≤ x then (match l[x - n]? with | some v => v | none => tget t x) else tget t x
  | [], n, t, x => by simp [tmpsOf]
  | v :: l, n, t, x => by
    have e : tmpsOf (v :: l) n t = tmpsOf l (n + 1) (t.set n (some v)) := rfl
    have hg : tget (t.set n (some v)) x = if x = n then v else tget t x := by
      unfold tget
      rw [Tr.get_set]
      by_cases h : x = n <;> simp [h]
    rw [e, tget_tmpsOf l (n + 1) (t.set n (some v)) x, hg]
    by_cases h1 : n + 1 ≤ x
    · have h2 : n ≤ x := by omega
      have h3 : x ≠ n := by omega
      have h4 : x - n = (x - (n + 1)) + 1 := by omega
      rw [if_pos h1, if_pos h2, if_neg h3, h4]
      rfl
    · rw [if_neg h1]
      by_cases h2 : x = n
      · subst h2; simp
      · rw [if_neg h2, if_neg (by omega)]

theorem enter_conc {as : List AV} {us : List Value} (h : ConcL E as us) (hn : as.length ≤ nt) : ConcT E nt (tmpsOf as 0 .lf) (us.toArray ++ Array.replicate (nt - us.toArray.size) undef) := by
  have hlen := h.length
  refine ⟨by simp; omega, fun x => ?_⟩
  rw [tget_tmpsOf]
  simp only [Nat.zero_le, if_true, Nat.sub_zero]
  have hlf : tget (.lf : Tr AV) x = .un := by unfold tget; rw [Tr.get_lf]
  rw [hlf, Array.getD_eq_getD_getElem?]
  cases hx : as[x]? with
  | some v =>
    obtain ⟨u, hu, hc⟩ := h.get x v hx
    have hlt : x < us.length := (List.getElem?_eq_some_iff.1 hu).1
    rw [Array.getElem?_append_left (by simpa using hlt)]
    simpa [hu] using hc
  | none =>
    show Conc E .un _
    have hge : us.length ≤ x := by rw [← hlen]; exact List.getElem?_eq_none_iff.1 hx
    rw [Array.getElem?_append_right (by simpa using hge)]
    rw [Array.getElem?_replicate]
    split <;> exact Conc.un (E := E)

theorem asAddr_run {t : TypeId} {u x : Value} {w' : World} (h : (Instr.loadAt t u).run P w = .ok x w') : (do loadVar t (← asAddr u) : Sem Value).run P w = .ok x w' := by
  have stk : ∀ s, (do let a ← (stuck s : Sem Addr); loadVar t a : Sem Value).run P w = .ok x w' → False := by
    intro s h
    rw [Sem.run_bind] at h
    cases h
  unfold Instr.loadAt at h
  cases u with
  | pointer a =>
    cases a with
    | some a => exact h
    | none => exact (stk _ h).elim
  | _ => exact (stk _ h).elim

def resVal (tmps : Array Value) : ResultVar → Sem Value
  | .tmp t => pure (tmps.getD t undef)
  | .cell a t => do loadVar t (← asAddr (tmps.getD a undef))

theorem results_run (hr : Rel E w.heap st) {t : Tr AV} {tmps : Array Value} (ht : ConcT E nt t tmps) : ∀ {l : List ResultVar} {vs : List AV}, pmapO (resOne P t st) l = some vs →
    ∃ us, (l.mapM (resVal tmps)).run P w = .ok us w ∧ ConcL E vs us
  | [], vs, h => by cases h; exact ⟨[], by simp, .nil⟩
  | r :: l, vs, h => by
    unfold pmapO at h
    cases hr1 : resOne P t st r with
    | none => rw [hr1] at h; cases h
    | some v =>
      rw [hr1] at h
      simp only at h
      cases hl : pmapO (resOne P t st) l with
      | none => rw [hl] at h; cases h
      | some vs' =>
        rw [hl] at h; cases h
        obtain ⟨us, h1, h2⟩ := results_run hr ht hl
        have : ∃ u, (resVal tmps r).run P w = .ok u w ∧ Conc E v u := by
          cases r with
          | tmp x =>
            refine ⟨tmps.getD x undef, rfl, ?_⟩
            cases hr1
            exact ht.2 x
          | cell a ty =>
            have hr1 : (match t.get a with | some v => loadAt P ty st v | none => none) = some v := hr1
            have hc := ht.2 a
            unfold tget at hc
            cases hg : t.get a with
            | none => rw [hg] at hr1; cases hr1
            | some z =>
              rw [hg] at hr1 hc
              obtain ⟨u, k1, k2⟩ := loadAt_spec hr hr1 hc
              exact ⟨u, asAddr_run k1, k2⟩
        obtain ⟨u, k1, k2⟩ := this
        refine ⟨u :: us, ?_, .cons _ _ _ _ k2 h2⟩
        rw [List.mapM_cons, Sem.run_bind, k1]
        simp only [Result.andThen_ok, Sem.run_bind, h1, Sem.run_pure]

theorem resOf_spec (hr : Rel E w.heap st) {fn : Func} {t : Tr AV} {tmps : Array Value} (ht : ConcT E nt t tmps) {v : AV} {st' : St} (h : resOf P fn.results.toList t st = some (v, st')) :
    st' = st ∧ ∃ u, (results fn tmps).run P w = .ok u w ∧ Conc E v u := by
  unfold resOf at h
  have key : ∀ {vs : List AV}, pmapO (resOne P t st) fn.results.toList = some vs → ∃ us, (results fn tmps).run P w = .ok (if h : us.toArray.size = 1 then us.toArray[0] else .tuple us.toArray) w ∧ ConcL E vs us := by
    intro vs hp
    obtain ⟨us, h1, h2⟩ := results_run (P := P) hr ht hp
    refine ⟨us, ?_, h2⟩
    have e : results fn tmps = (do let vs ← fn.results.mapM (resVal tmps); pure (if h : vs.size = 1 then vs[0] else .tuple vs)) := rfl
    rw [e, Sem.run_bind, Array.mapM_eq_mapM_toList, Sem.run_map, h1]
    rfl
  split at h
  · rename_i v' hp
    cases h
    obtain ⟨us, h1, h2⟩ := key hp
    cases h2 with
    | cons _ _ u us hu hus =>
      cases hus
      exact ⟨rfl, u, h1, hu⟩
  · rename_i vs hne hp
    cases h
    obtain ⟨us, h1, h2⟩ := key hp
    refine ⟨rfl, .tuple us.toArray, ?_, .tu _ _ h2⟩
    rw [h1]
    have : us.toArray.size ≠ 1 := by
      intro e
      have e' : vs.length = 1 := by rw [h2.length]; simpa using e
      match vs, e' with
      | [v], _ => first | exact hne v hp | exact hne v rfl
    rw [dif_neg this]
  · cases h

theorem body_specK (hS : SelfOK P S) {kind : CallKind} {n : Nat} {f : FuncId} {as : List AV} {us : List Value} (hr : Rel E w.heap st) (hc : ConcL E as us) {v : AV} {st' : St} (h : evBody P S n f as st = some (v, st')) (hn : st'.next ≤ E.top) :
    ∃ E' w' cv, CallsK P kind f us.toArray w w' cv ∧ StepW E E' w w' st st' ∧ Conc E' v cv := by
  unfold evBody at h
  split at h
  · cases h
  rename_i fn hf
  split at h
  · cases h
  rename_i c hbody
  obtain ⟨hlen, h⟩ := brec h
  have hlen' : as.length ≤ fn.ntmps := by simpa [Nat.ble_eq] using hlen
  have ht := enter_conc (nt := fn.ntmps) hc hlen'
  let fb : Frame := { fn := f, tmps := us.toArray ++ Array.replicate (fn.ntmps - us.toArray.size) undef, todo := [], defers := [], mode := .run, kind := kind }
  let a0 : Act := { tmps := us.toArray ++ Array.replicate (fn.ntmps - us.toArray.size) undef, defers := [] }
  have hent : Frame.enter P f us.toArray kind = fb.atR a0 [.code c] := by
    simp [Frame.enter, hf, hbody, Frame.atR, fb, a0]
  have h : endF P fn.results.toList (evCD ⟨P, S, false, fn.ntmps, n⟩ c (tmpsOf as 0 .lf) st) = some (v, st') := h
  have hst1 : ∀ {l : List ResultVar} {t : Tr AV} {st1 : St}, resOf P l t st1 = some (v, st') → st1 = st' := by
    intro l t st1 h
    unfold resOf at h
    split at h <;> first | (cases h; rfl) | cases h
  -- behind the code the results
  have fin : ∀ {t : Tr AV} {st1 : St}, resOf P fn.results.toList t st1 = some (v, st') → (∃ E' a' w' todo, StepW E E' w w' st st1 ∧ ConcT E' fn.ntmps t a'.tmps ∧ ∀ cs, Steps P (lone (fb.atR a0 [.code c]) cs w) (lone { fb.atR a' todo with mode := .returning, defers := [] } cs w')) →
      ∃ E' w' cv, CallsK P kind f us.toArray w w' cv ∧ StepW E E' w w' st st' ∧ Conc E' v cv := by
    rintro t st1 hres ⟨E1, a1, w2, todo, k1, k2, k3⟩
    obtain ⟨rfl, u, k5, k4⟩ := resOf_spec (P := P) k1.rel k2 hres
    refine ⟨E1, w2, u, fun cs => ⟨{ fb.atR a1 todo with mode := .returning, defers := [] }, ?_, rfl, rfl, rfl, rfl, fn, hf, k5⟩, k1, k4⟩
    rw [hent]; exact k3 cs
  have hE : ∀ {o : Out}, evCD ⟨P, S, false, fn.ntmps, n⟩ c (tmpsOf as 0 .lf) st = o → o.lim E.top → Ends P E fn.ntmps fb w st (fun cs => lone (fb.atR a0 [.code c]) cs w) o := by
    intro o ho hl
    subst ho
    exact topCD_spec (P := P) (b := fb) (x := ⟨P, S, false, fn.ntmps, n⟩) rfl hS rfl rfl rfl (a := a0) hr ht rfl hl
  unfold endF at h
  split at h
  · rename_i t st1 hev
    have := hst1 h; subst this
    exact fin h (hE hev hn)
  · rename_i t st1 hev
    have := hst1 h; subst this
    exact fin h (hE hev hn)
  · cases h

theorem body_spec (hS : SelfOK P S) {n : Nat} {f : FuncId} {as : List AV} {us : List Value} (hr : Rel E w.heap st) (hc : ConcL E as us) {v : AV} {st' : St} (h : evBody P S n f as st = some (v, st')) (hn : st'.next ≤ E.top) :
    ∃ E' w' cv, CallsTo P f us.toArray w w' cv ∧ StepW E E' w w' st st' ∧ Conc E' v cv := by
  obtain ⟨E', w', cv, h1, h2, h3⟩ := body_specK (kind := .normal) hS hr hc h hn
  exact ⟨E', w', cv, h1.to, h2, h3⟩

theorem self_ok (hng : NoNG P) (hmx : P.follows .mixedOrders = true) : ∀ n, SelfOK P (self P n)
  | 0 => ⟨hng, hmx, self_up P 0, fun _ _ h _ => (by cases h), fun _ _ _ _ _ _ => trivial, fun _ _ h _ => (by cases h)⟩
  | n + 1 => ⟨hng, hmx, self_up P (n + 1), fun hr hc h hn => body_spec (self_ok hng hmx n) hr hc h hn, fun {E w st nt c t a b} k hb hr ht hm hl =>
      code_spec (P := P) (n0 := 0) c ⟨P, self P n, true, nt, n⟩ rfl (self_ok hng hmx n) k hb.symm hr ht hm (Nat.zero_le _) hl, fun hr hc h hn => body_specK (self_ok hng hmx n) hr hc h hn⟩

end

end

end Go.Ev
