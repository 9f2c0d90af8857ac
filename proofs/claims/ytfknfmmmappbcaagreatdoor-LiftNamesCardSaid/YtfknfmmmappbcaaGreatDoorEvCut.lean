/- A run in parts: of a closed function, the first statements, then those behind them; what isn't looked at any more is forgotten between. -/
import Derived.Test.YtfknfmmmappbcaaGreatDoorEvTop
namespace Go.Ev

noncomputable section

/-- The first statements. -/
def evPre (x : Ctx) : Nat → Code → Tr AV → St → Option (Tr AV × St)
  | 0, _ => fun t st => some (t, st)
  | n + 1, .seq a b => fun t st => match evC a x t st with
    | .nx t st => evPre x n b t st
    | _ => none
  | _, _ => fun _ _ => none
/-- The code behind them. -/
def sufC : Nat → Code → Code
  | n + 1, .seq _ b => sufC n b
  | _, c => c

/-- Such numbers alone. -/
def keepT {α : Type} (src : Tr α) : List Nat → Tr α → Tr α
  | [], acc => acc
  | i :: l, acc => match src.get i with
    | some v => keepT src l (acc.set i (some v))
    | none => keepT src l acc
def keepS (rs gs : List Nat) (st : St) : St := ⟨keepT st.rows rs .lf, keepT st.live gs .lf, st.next⟩
def keepO (rs gs : List Nat) : Option (Tr AV × St) → Option (Tr AV × St)
  | some (t, st) => some (t, keepS rs gs st)
  | none => none
def cutTo (x : Ctx) (n : Nat) (c : Code) (rs gs : List Nat) (t : Tr AV) (st : St) : Option (Tr AV × St) := keepO rs gs (evPre x n c t st)
def bodyAt (P : Program) (f : FuncId) : Code := match P.funcs[f]? with
  | some fn => match fn.body with | some c => c | none => .skip
  | none => .skip
def ntAt (P : Program) (f : FuncId) : Nat := match P.funcs[f]? with
  | some fn => fn.ntmps
  | none => 0
def resAt (P : Program) (f : FuncId) : List ResultVar := match P.funcs[f]? with
  | some fn => fn.results.toList
  | none => []
/-- What is behind answers true. -/
def endsTrue (P : Program) (x : Ctx) (l : List ResultVar) (c : Code) (t : Tr AV) (st : St) : Bool :=
  match endF P l (evC c x t st) with
  | some (v, _) => match v.asB with
    | some b => b
    | none => false
  | none => false

theorem keepT_get {α : Type} {src : Tr α} : ∀ {l : List Nat} {acc : Tr α} {i : Nat} {v : α}, (keepT src l acc).get i = some v → acc.get i = some v ∨ src.get i = some v
  | [], acc, i, v, h => .inl h
  | j :: l, acc, i, v, h => by
    unfold keepT at h
    split at h
    · rename_i u hu
      rcases keepT_get h with h | h
      · rw [Tr.get_set] at h
        by_cases e : i = j
        · subst e; rw [if_pos rfl] at h; cases h; exact .inr hu
        · rw [if_neg e] at h; exact .inl h
      · exact .inr h
    · exact keepT_get h

theorem keepT_lf {α : Type} {src : Tr α} {l : List Nat} {i : Nat} {v : α} (h : (keepT src l .lf).get i = some v) : src.get i = some v := by
  rcases keepT_get h with h | h
  · rw [Tr.get_lf] at h; cases h
  · exact h

section
variable {P : Program} {S : Self} {E : Env} {w : World} {st : St} {b : Frame}

theorem keepS_get {rs gs : List Nat} {r : Nat} {row : Row} (h : (keepS rs gs st).get r = some row) : st.get r = some row := keepT_lf h
theorem keepS_live {rs gs : List Nat} {g : Nat} {al : List Nat} (h : (keepS rs gs st).live.get g = some al) : st.live.get g = some al := keepT_lf h
theorem keepS_alive {rs gs : List Nat} {r : Nat} {row : Row} (h : (keepS rs gs st).alive r = some row) : st.alive r = some row := by
  have hg := Rel.alive_get h
  have hg' := keepS_get hg
  unfold St.alive at h ⊢
  rw [hg] at h
  rw [hg']
  cases row with
  | ce l g =>
    simp only at h ⊢
    cases hl : (keepS rs gs st).live.get g with
    | none => rw [hl] at h; cases h
    | some al => rw [hl] at h; rw [keepS_live hl]; exact h
  | _ => exact h

theorem keepS_step {H : Array Obj} (h : Rel E H st) (rs gs : List Nat) : Step E E H H st (keepS rs gs st) := by
  have some_none : ∀ {α : Type} {o o' : Option α}, (∀ v, o = some v → o' = some v) → o' = none → o = none := by
    intro α o o' hh e
    cases o with
    | none => rfl
    | some v => rw [hh v rfl] at e; cases e
  refine ⟨.refl E, rfl, rfl, ⟨h.imm, h.fresh, fun x hx => some_none (fun v hv => keepS_get hv) (h.freshRow x hx), fun g hg => some_none (fun v hv => keepS_live hv) (h.freshG g hg), fun g al x hg hx => h.liveLt g al x (keepS_live hg) hx,
    fun x w hx => h.rows x w (keepS_alive hx), fun x w B hx hB => h.own x w B (keepS_alive hx) hB, fun x x' w w' B B' hx hx' hB hB' hb => h.sep x x' w w' B B' (keepS_alive hx) (keepS_alive hx') hB hB' hb, ?_⟩, Nat.le_refl _, fun _ _ _ => rfl, ?_⟩
  · intro g al hg
    refine (h.ends g al (keepS_live hg)).imp ?_
    intro x y hxy lx ly Bx By h1 h2
    exact hxy lx ly Bx By (keepS_get h1) (keepS_get h2)
  · rintro c ⟨x, w, C, hx, hC, rfl⟩
    exact .inr ⟨x, w, C, keepS_alive hx, hC, rfl⟩

theorem up_evPre {x : Ctx} (hS : SelfUp x.S) : ∀ (n : Nat) (c : Code) {t t' : Tr AV} {st st' : St}, evPre x n c t st = some (t', st') → st.next ≤ st'.next := by
  intro n
  induction n with
  | zero =>
    intro c t t' st st' h
    have e : evPre x 0 c t st = some (t, st) := by cases c <;> rfl
    rw [e] at h; cases h; exact Nat.le_refl _
  | succ n ih =>
    intro c t t' st st' h
    cases c with
    | seq a b =>
      unfold evPre at h
      split at h
      · rename_i t1 st1 e
        exact Nat.le_trans ((upo_evC a x hS t st).1 _ _ e) (ih b h)
      · cases h
    | _ => cases h

theorem pre_spec {x : Ctx} (hxP : x.P = P) (hS : SelfOK P x.S) (hi : x.inR = b.roundOf.isSome) {n0 : Nat} {k : List Item} : ∀ (n : Nat) (c : Code) {E : Env} {w : World} {st : St} {t : Tr AV} {a : Act} {t' : Tr AV} {st' : St}, Rel E w.heap st → ConcT E x.nt t a.tmps →
    Marks n0 b.defers E w.heap st a.defers → n0 ≤ w.heap.size → evPre x n c t st = some (t', st') → st'.next ≤ E.top →
    ∃ E' a' w', StepW E E' w w' st st' ∧ ConcT E' x.nt t' a'.tmps ∧ Marks n0 b.defers E' w'.heap st' a'.defers ∧ ∀ cs, Steps P (lone (b.atR a (.code c :: k)) cs w) (lone (b.atR a' (.code (sufC n c) :: k)) cs w') := by
  intro n
  induction n with
  | zero =>
    intro c E w st t a t' st' hr ht hm hn0 h hn
    have e : evPre x 0 c t st = some (t, st) := by cases c <;> rfl
    have e2 : sufC 0 c = c := by cases c <;> rfl
    rw [e] at h; cases h
    rw [e2]
    exact ⟨E, a, w, .refl hr, ht, hm, fun cs => .refl _ _⟩
  | succ n ih =>
    intro c E w st t a t' st' hr ht hm hn0 h hn
    cases c with
    | seq c1 c2 =>
      unfold evPre at h
      cases hc : evC c1 x t st with
      | nx t1 st1 =>
        rw [hc] at h
        have hup := up_evPre hS.up n c2 h
        have h1 := code_spec (P := P) (n0 := n0) (b := b) c1 x hxP hS (a := a) (.code c2 :: k) hi hr ht hm hn0 (by rw [hc]; show st1.next ≤ E.top; omega)
        rw [hc] at h1
        obtain ⟨E1, a1, w1, s1, h2, h3, h4⟩ := h1
        obtain ⟨E2, a2, w2, s2, k2, k3, k4⟩ := ih c2 s1.rel h2 h3 (Nat.le_trans hn0 s1.fr.size) h (by rw [s1.top]; exact hn)
        exact ⟨E2, a2, w2, s1.trans s2, k2, k3, fun cs => (Steps.one stepR_seq).trans ((h4 cs).trans (k4 cs))⟩
      | no => rw [hc] at h; cases h
      | ex i t1 st1 => rw [hc] at h; cases h
      | rt t1 st1 => rw [hc] at h; cases h
    | _ => cases h
end

/-- A call of a closed function has come so far. -/
def Gone (P : Program) (f : FuncId) (fn : Func) (c : Code) (t : Tr AV) (st : St) : Prop := ∀ (top : Nat), st.next ≤ top → ∀ w : World, ∃ E' a' w', StepW ⟨fun _ => none, fun _ => none, top⟩ E' w w' st0 st ∧ ConcT E' fn.ntmps t a'.tmps ∧
  Marks w.heap.size [] E' w'.heap st a'.defers ∧ ∀ cs, Steps P (lone (Frame.enter P f #[] .normal) cs w) (lone (({ (default : Frame) with fn := f, defers := [], kind := .normal, roundOf := none } : Frame).atR a' [.code c]) cs w')

section
variable {P : Program} {S : Self} {f : FuncId} {fn : Func} {c : Code} {t : Tr AV} {st : St}

theorem gone_start (hf : P.funcs[f]? = some fn) (hb : fn.body = some c) : Gone P f fn c .lf st0 := by
  intro top hn w
  refine ⟨_, { tmps := Array.replicate fn.ntmps undef, defers := [] }, w, .refl (st0_rel w.heap top), ?_, Marks.nil, fun cs => ?_⟩
  · have := enter_conc (E := ⟨fun _ => none, fun _ => none, top⟩) (nt := fn.ntmps) (as := []) (us := []) .nil (Nat.zero_le _)
    simpa using this
  · have : Frame.enter P f #[] .normal = ({ (default : Frame) with fn := f, defers := [], kind := .normal, roundOf := none } : Frame).atR { tmps := Array.replicate fn.ntmps undef, defers := [] } [.code c] := by
      simp [Frame.enter, hf, hb, Frame.atR]
    rw [this]; exact .refl _ _

theorem gone_cut (hS : SelfOK P S) {n m : Nat} (hg : Gone P f fn c t st) {rs gs : List Nat} {t' : Tr AV} {st' : St} (h : cutTo ⟨P, S, false, fn.ntmps, m⟩ n c rs gs t st = some (t', st')) : Gone P f fn (sufC n c) t' st' := by
  intro top hn w
  unfold cutTo at h
  cases he : evPre ⟨P, S, false, fn.ntmps, m⟩ n c t st with
  | none => rw [he] at h; cases h
  | some p =>
    obtain ⟨t1, st1⟩ := p
    rw [he] at h
    cases h
    have hn1 : st1.next ≤ top := hn
    have hup := up_evPre (x := ⟨P, S, false, fn.ntmps, m⟩) hS.up n c he
    obtain ⟨E1, a1, w1, s1, h1, h2, h3⟩ := hg top (by omega) w
    obtain ⟨E2, a2, w2, s2, k1, k2, k3⟩ := pre_spec (P := P) (x := ⟨P, S, false, fn.ntmps, m⟩) (b := ({ (default : Frame) with fn := f, defers := [], kind := .normal, roundOf := none } : Frame)) rfl hS rfl (n0 := w.heap.size) (k := []) n c s1.rel h1 h2 s1.fr.size he (by rw [s1.top]; exact hn1)
    have s3 := keepS_step s2.rel rs gs
    exact ⟨E2, a2, w2, ⟨(s1.trans s2).toStep.trans s3, (s1.trans s2).os, (s1.trans s2).out⟩, k1, k2.step s3, fun cs => (h3 cs).trans (k3 cs)⟩

theorem gone_true (hS : SelfOK P S) (hf : P.funcs[f]? = some fn) {m : Nat} (hg : Gone P f fn c t st) (h : endsTrue P ⟨P, S, false, fn.ntmps, m⟩ fn.results.toList c t st = true) (w : World) :
    ∃ w', CallsTo P f #[] w w' (.bool true) ∧ w'.os = w.os ∧ w'.output = w.output ∧ w.heap.size ≤ w'.heap.size ∧ ∀ i, i < w.heap.size → w'.heap[i]? = w.heap[i]? := by
  unfold endsTrue at h
  split at h
  case h_2 => cases h
  rename_i v st' he
  split at h
  case h_2 => cases h
  rename_i q hb
  subst h
  have hv := AV.asB_some hb
  subst hv
  have hst1 : ∀ {l : List ResultVar} {t : Tr AV} {st1 : St}, resOf P l t st1 = some (.b true, st') → st1 = st' := by
    intro l t st1 h
    unfold resOf at h
    split at h <;> first | (cases h; rfl) | cases h
  have hup : st.next ≤ st'.next := by
    have hu := upo_evC c ⟨P, S, false, fn.ntmps, m⟩ hS.up t st
    unfold endF at he
    split at he
    · rename_i e; have := hst1 he; subst this; exact hu.1 _ _ e
    · rename_i e; have := hst1 he; subst this; exact hu.2.2 _ _ e
    · cases he
  obtain ⟨E1, a1, w1, s1, h1, ⟨ms, h2, h2'⟩, h3⟩ := hg st'.next hup w
  rw [List.append_nil] at h2
  subst h2
  have fin : ∀ {t1 : Tr AV} {st1 : St}, resOf P fn.results.toList t1 st1 = some (.b true, st') → (evC c ⟨P, S, false, fn.ntmps, m⟩ t st = .nx t1 st1 ∨ evC c ⟨P, S, false, fn.ntmps, m⟩ t st = .rt t1 st1) →
      ∃ w', CallsTo P f #[] w w' (.bool true) ∧ w'.os = w.os ∧ w'.output = w.output ∧ w.heap.size ≤ w'.heap.size ∧ ∀ i, i < w.heap.size → w'.heap[i]? = w.heap[i]? := by
    intro t1 st1 hres ho
    have := hst1 hres; subst this
    have hE := plain_ends (P := P) (x := ⟨P, S, false, fn.ntmps, m⟩) (b := ({ (default : Frame) with fn := f, defers := [], kind := .normal, roundOf := none } : Frame)) rfl hS rfl rfl rfl (st0_rel w.heap st1.next) s1 h1 h2' (by
      rcases ho with e | e <;> rw [e]
      · show st1.next ≤ E1.top; rw [s1.top]; exact Nat.le_refl _
      · show st1.next ≤ E1.top; rw [s1.top]; exact Nat.le_refl _)
    have hE' : ∃ E' a' w' todo, StepW ⟨fun _ => none, fun _ => none, st1.next⟩ E' w w' st0 st1 ∧ ConcT E' fn.ntmps t1 a'.tmps ∧ ∀ cs, Steps P (lone (({ (default : Frame) with fn := f, defers := [], kind := .normal, roundOf := none } : Frame).atR a1 [.code c]) cs w1) (lone { ({ (default : Frame) with fn := f, defers := [], kind := .normal, roundOf := none } : Frame).atR a' todo with mode := .returning, defers := [] } cs w') := by
      rcases ho with e | e
      · rw [e] at hE; exact hE
      · rw [e] at hE; exact hE
    obtain ⟨E2, a2, w2, todo, s2, k2, k3⟩ := hE'
    obtain ⟨-, u, k5, k4⟩ := resOf_spec (P := P) s2.rel k2 hres
    cases k4
    refine ⟨w2, fun cs => ⟨_, (h3 cs).trans (k3 cs), rfl, rfl, rfl, rfl, fn, hf, k5⟩, s2.os, s2.out, s2.fr.size, fun i hi => s2.fr.keep i hi ?_⟩
    rintro ⟨r, row, B, ha, _, _⟩
    have := Rel.alive_get ha
    rw [st0_get] at this; cases this
  unfold endF at he
  split at he
  · rename_i e; exact fin he (.inl e)
  · rename_i e; exact fin he (.inr e)
  · cases he

end

end

end Go.Ev
