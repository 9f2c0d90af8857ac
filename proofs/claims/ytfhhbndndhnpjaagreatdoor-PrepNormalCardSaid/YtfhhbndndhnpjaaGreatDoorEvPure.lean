/- Functions of which a contract is known are called by it, at every depth. -/
import Derived.Test.YtfhhbndndhnpjaaGreatDoorEvData
namespace Go.Ev
noncomputable section
variable {P : Program}

/-- Calls, where each is looked at ahead by W. -/
def selfW (P : Program) (W : Self → Self) (n : Nat) : Self :=
  @Nat.rec (fun _ => Self) ⟨fun _ _ _ => none, fun _ _ _ _ => .no⟩ (fun n s => W ⟨evBody P s n, fun nt c t st => evC c ⟨P, s, true, nt, n⟩ t st⟩) n

theorem selfW_ok (hng : NoNG P) (hmx : P.follows .mixedOrders = true) {W : Self → Self} (hW : ∀ S, SelfOK P S → SelfOK P (W S)) : ∀ n, SelfOK P (selfW P W n)
  | 0 => ⟨hng, hmx, ⟨fun _ _ _ => up_none, fun _ _ _ _ => upo_no⟩, fun _ _ h _ => (by cases h), fun _ _ _ _ _ _ => trivial⟩
  | n + 1 => hW _ ⟨hng, hmx, ⟨fun _ _ _ => up_evBody (selfW_ok hng hmx hW n).up, fun nt c t st => upo_evC c ⟨P, selfW P W n, true, nt, n⟩ (selfW_ok hng hmx hW n).up t st⟩, fun hr hc h hn => body_spec (selfW_ok hng hmx hW n) hr hc h hn, fun {E w st nt c t a b} k hb hr ht hm hl =>
      code_spec (P := P) (n0 := 0) c ⟨P, selfW P W n, true, nt, n⟩ rfl (selfW_ok hng hmx hW n) k hb.symm hr ht hm (Nat.zero_le _) hl⟩

/-- A function that gives what F tells, and changes nothing that was there. -/
def withPure (g : FuncId) (F : List AV → Option AV) (S : Self) : Self :=
  ⟨fun f xs st => @Bool.rec (fun _ => Res) (S.call f xs st) (match F xs with | some v => some (v, st) | none => S.call f xs st) (Nat.beq f g), S.code⟩

def PureOK (P : Program) (g : FuncId) (F : List AV → Option AV) : Prop := ∀ {E : Env} {w : World} {xs : List AV} {us : List Value} {v : AV}, ConcL E xs us → F xs = some v →
  ∃ w' cv, CallsTo P g us.toArray w w' cv ∧ w'.os = w.os ∧ w'.output = w.output ∧ w.heap.size ≤ w'.heap.size ∧ (∀ i, i < w.heap.size → w'.heap[i]? = w.heap[i]?) ∧ Conc E v cv

theorem withPure_ok {g : FuncId} {F : List AV → Option AV} (hF : PureOK P g F) (S : Self) (hS : SelfOK P S) : SelfOK P (withPure g F S) := by
  refine ⟨hS.ng, hS.mixed, ⟨fun f xs st => ?_, hS.up.code⟩, fun {E w st st' f xs us v} hr hc h hn => ?_, fun {E w st nt c t a b} k hb hr ht hm hl => hS.code k hb hr ht hm hl⟩
  · unfold withPure
    simp only
    cases Nat.beq f g with
    | false => exact hS.up.call f xs st
    | true =>
      cases hx : F xs with
      | none => exact hS.up.call f xs st
      | some v => exact up_same
  · unfold withPure at h
    simp only at h
    cases hb : Nat.beq f g with
    | false => rw [hb] at h; exact hS.call hr hc h hn
    | true =>
      rw [hb] at h
      cases hx : F xs with
      | none => rw [hx] at h; exact hS.call hr hc h hn
      | some v' =>
        rw [hx] at h
        cases h
        have : f = g := by simpa [nbeq] using hb
        subst this
        obtain ⟨w', cv, h1, h2, h3, h4, h5, h6⟩ := hF hc hx
        exact ⟨E, w', cv, h1, ⟨Step.grow hr h4 h5, h2, h3⟩, h6⟩

theorem withPure_ne {g f : FuncId} {F : List AV → Option AV} {S : Self} {xs : List AV} {st : St} (h : f ≠ g) : (withPure g F S).call f xs st = S.call f xs st := by
  show @Bool.rec (fun _ => Res) (S.call f xs st) _ (Nat.beq f g) = _
  rw [nbeq, decide_eq_false h]
theorem withPure_eq {g : FuncId} {F : List AV → Option AV} {S : Self} {xs : List AV} {st : St} {v : AV} (h : F xs = some v) : (withPure g F S).call g xs st = some (v, st) := by
  show @Bool.rec (fun _ => Res) (S.call g xs st) (match F xs with | some v => some (v, st) | none => S.call g xs st) (Nat.beq g g) = _
  rw [nbeq, decide_eq_true rfl, h]

/-- A contract by a run from nothing. -/
theorem pure_run {S : Self} (hS : SelfOK P S) {n : Nat} {g : FuncId} {xs : List AV} {us : List Value} {w : World} {v : AV} {st' : St} (hc : ∀ top, ConcL ⟨fun _ => none, fun _ => none, top⟩ xs us)
    (he : evBody P S n g xs st0 = some (v, st')) (hv : ∀ (E E' : Env) (cv : Value), Conc E' v cv → Conc E v cv) (E : Env) :
    ∃ w' cv, CallsTo P g us.toArray w w' cv ∧ w'.os = w.os ∧ w'.output = w.output ∧ w.heap.size ≤ w'.heap.size ∧ (∀ i, i < w.heap.size → w'.heap[i]? = w.heap[i]?) ∧ Conc E v cv := by
  obtain ⟨E', w', cv, h1, h2, h3⟩ := body_spec hS (E := ⟨fun _ => none, fun _ => none, st'.next⟩) (w := w) (us := us) (st0_rel w.heap st'.next) (hc _) he (Nat.le_refl _)
  refine ⟨w', cv, h1, h2.os, h2.out, h2.fr.size, fun i hi => h2.fr.keep i hi ?_, hv _ _ _ h3⟩
  rintro ⟨r, row, B, ha, _, _⟩
  have := Rel.alive_get ha
  rw [st0_get] at this; cases this

/-- What is known of a function, of arguments that are there. -/
theorem run_callsS {S : Self} (hS : SelfOK P S) {w : World} {n' : Nat} {f : FuncId} {l : List AV} {us : List Value} (hc : ∀ top, ConcL (inEnv w.heap top) l us) {st' : St}
    (he : evBody P S n' f l st0 = some (.b true, st')) :
    ∃ w', CallsTo P f us.toArray w w' (.bool true) ∧ w'.os = w.os ∧ w'.output = w.output ∧ w.heap.size ≤ w'.heap.size ∧ ∀ i, i < w.heap.size → w'.heap[i]? = w.heap[i]? := by
  obtain ⟨E', w', cv, h1, h2, h3⟩ := body_spec hS (w := w) (us := us) (inEnv_rel w.heap st'.next) (hc _) he (Nat.le_refl _)
  cases h3
  refine ⟨w', h1, h2.os, h2.out, h2.fr.size, fun i hi => h2.fr.keep i hi ?_⟩
  rintro ⟨r, row, B, ha, _, _⟩
  have := Rel.alive_get ha
  rw [st0_get] at this; cases this

end
end Go.Ev
