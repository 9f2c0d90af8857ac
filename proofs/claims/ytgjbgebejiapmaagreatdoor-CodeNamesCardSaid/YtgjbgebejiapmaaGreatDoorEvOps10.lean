/- Each operation does in the model's memory what it does in the abstract state: interfaces, conversions, built-in functions. -/
import Derived.Test.YtgjbgebejiapmaaGreatDoorEvOps9
namespace Go.Ev

noncomputable section

section
variable {P : Program} {w : World} {E : Env} {st : St}

theorem assertOf_spec {as xt : TypeId} {ok : Bool} {x v : AV} {u : Value} {st' : St} (h : assertOf P as ok st x = some (v, st')) (hx : Conc E x u) :
    st' = st ∧ ∃ z, (Instr.typeAssert u xt as ok).run P w = .ok z w ∧ Conc E v z := by
  unfold assertOf at h
  split at h
  · rename_i ty y
    cases hx
    rename_i u' hu'
    have hold : ∀ v', v' = cond ok (.tu [.ifc ty y, .b true]) (.ifc ty y) → ∃ z, z = (if ok then Value.tuple #[.iface ty u', .bool true] else .iface ty u') ∧ Conc E v' z := by
      intro v' e
      refine ⟨_, rfl, ?_⟩
      cases ok
      · subst e; exact .ifc _ _ _ hu'
      · subst e; exact .tu _ [_, _] (.cons _ _ _ _ (.ifc _ _ _ hu') (.cons _ _ _ _ (.b true) .nil))
    split at h
    · rename_i want hu
      split at h
      · rename_i i hi
        split at h
        · rename_i hm
          cases h
          obtain ⟨z, h1, h2⟩ := hold _ rfl
          refine ⟨rfl, z, ?_, h2⟩
          unfold Instr.typeAssert
          simp only [Sem.run_bind, run_under hu, Result.andThen_ok, run_typeInfo' hi, hm, Sem.run_pure, h1]
        · cases h
      · cases h
    · rename_i d hnd hu
      cases hb : Nat.beq ty as with
      | true =>
        rw [hb] at h
        cases h
        have : ty = as := Nat.eq_of_beq_eq_true hb
        refine ⟨rfl, if ok then .tuple #[u', .bool true] else u', ?_, ?_⟩
        · unfold Instr.typeAssert
          simp only [Sem.run_bind, run_under hu, Result.andThen_ok]
          cases d <;> first | exact (hnd _ rfl).elim | (simp only [if_pos this]; rfl)
        · cases ok
          · exact hu'
          · exact .tu _ [_, _] (.cons _ _ _ _ hu' (.cons _ _ _ _ (.b true) .nil))
      | false =>
        rw [hb] at h
        have hne : ¬ ty = as := fun e => by rw [e] at hb; simp [nbeq] at hb
        cases ok with
        | false => cases h
        | true =>
          simp only [cond_true] at h
          split at h
          · rename_i z hz
            cases h
            obtain ⟨zv, rfl, hzr⟩ := zero_of hz
            refine ⟨rfl, .tuple #[zv, .bool false], ?_, .tu _ [_, _] (.cons _ _ _ _ (ofVal_conc zv) (.cons _ _ _ _ (.b false) .nil))⟩
            unfold Instr.typeAssert
            simp only [Sem.run_bind, run_under hu, Result.andThen_ok]
            cases d <;> first | exact (hnd _ rfl).elim | (simp only [if_neg hne, if_true, Sem.run_bind, hzr, Result.andThen_ok, Sem.run_pure])
          · cases h
    · cases h
  · cases h

theorem nth_spec {n : Nat} {x v : AV} {u : Value} {st' : St} (h : nth n st x = some (v, st')) (hx : Conc E x u) : st' = st ∧ ∃ z, (Instr.extract u n).run P w = .ok z w ∧ Conc E v z := by
  unfold nth at h
  split at h
  · obtain ⟨h1, h2⟩ := give_spec h
    cases hx
    rename_i vs hc
    obtain ⟨z, g1, g2⟩ := hc.get n v h1
    refine ⟨h2, z, ?_, g2⟩
    simp [Instr.extract, g1]
  · cases h

theorem field_spec {S : Self} {t : Tr AV} {ρ : Operand → Value} (hρ : ∀ x, Conc E (evO t x) (ρ x)) {s : TypeId} {x : Operand} {n : Nat} {v : AV} {st' : St} (h : opField s x n P S t st = some (v, st')) :
    st' = st ∧ ∃ z, (Instr.field s (ρ x) n).run P w = .ok z w ∧ Conc E v z := by
  unfold opField at h
  split at h
  · rename_i f cs hf hx
    obtain ⟨h1, h2⟩ := give_spec h
    have hc := hρ x
    rw [hx] at hc
    generalize ρ x = u at hc
    cases hc
    rename_i vs hc
    obtain ⟨z, g1, g2⟩ := part_spec (P := P) (w := w) (us := vs.toArray) h1 (by simpa using hc)
    refine ⟨h2, z, ?_, g2⟩
    unfold fieldOf at hf
    split at hf
    · rename_i fs hu
      simp only [Instr.field, Sem.run_bind, run_under hu, Result.andThen_ok, hf, asAgg, Sem.run_pure, g1]
    · cases hf
  · cases h

theorem bool_rec {α : Type} {a : Bool} {x : Option α} {y : α} (h : (@Bool.rec (fun _ => Option α) x none a) = some y) : a = false ∧ x = some y := by
  cases a with
  | false => exact ⟨rfl, h⟩
  | true => cases h

theorem int64_spec {n : Option Nat} {v : AV} {st' : St} (h : int64 st n = some (v, st')) : st' = st ∧ ∃ k, n = some k ∧ v = .i .i64 (Int.ofNat k) := by
  cases n with
  | none => cases h
  | some k => cases h; exact ⟨rfl, k, rfl, rfl⟩

theorem len_spec (h : Rel E w.heap st) {ts : List TypeId} {x v : AV} {u : Value} {st' : St} (hl : bLen1 P st ts x = some (v, st')) (hx : Conc E x u) (ty : TypeId) :
    st' = st ∧ ∃ z, (Builtin.len_ ts.toArray ty #[u]).run P w = .ok z w ∧ Conc E v z := by
  unfold bLen1 at hl
  split at hl
  · rename_i t r
    split at hl
    · rename_i hu
      obtain ⟨ht, hl⟩ := brec hl
      obtain ⟨rfl, k, hk, rfl⟩ := int64_spec hl
      cases x <;> simp only [isText] at ht <;> first | (cases ht; done) | skip
      cases hx
      rename_i bs
      cases hk
      refine ⟨rfl, _, ?_, .i .i64 _⟩
      simp [Builtin.len_, run_under hu, goInt]
    · rename_i e hu
      obtain ⟨ht, hl⟩ := bool_rec hl
      obtain ⟨rfl, k, hk, rfl⟩ := int64_spec hl
      refine ⟨rfl, .int .i64 k, ?_, .i .i64 _⟩
      cases hx <;> first | (cases hk; done) | (simp only [isText] at ht; cases ht; done) | skip
      all_goals (cases hk; simp [Builtin.len_, run_under hu, goInt])
    · rename_i kt e hu
      unfold lenMap at hl
      split at hl
      · split at hl
        · rename_i es clock hg
          cases hl
          cases hx
          rename_i B hB
          obtain ⟨B', ents, hB', hw, hc, _⟩ := Rel.mp h hg
          rw [hB] at hB'; cases hB'
          refine ⟨rfl, .int .i64 es.length, ?_, .i .i64 _⟩
          have hlen : es.length = ents.size := by simpa using hc.length
          simp [Builtin.len_, run_under hu, goInt, getObj_run hw (fun _ _ _ e => by cases e), hlen]
        · cases hl
      · cases hl
        cases hx
        exact ⟨rfl, .int .i64 0, by simp [Builtin.len_, run_under hu, goInt], .i .i64 _⟩
      · cases hl
    · rename_i n e hu
      obtain ⟨rfl, k, hk, rfl⟩ := int64_spec hl
      cases hk
      refine ⟨rfl, .int .i64 n, ?_, .i .i64 _⟩
      simp [Builtin.len_, run_under hu, goInt]
    · rename_i e hu
      split at hl
      · rename_i n e' hu'
        obtain ⟨rfl, k, hk, rfl⟩ := int64_spec hl
        cases hk
        refine ⟨rfl, .int .i64 n, ?_, .i .i64 _⟩
        simp [Builtin.len_, run_under hu, run_under hu', goInt]
      · cases hl
    · rename_i dd e hu
      unfold lenChan at hl
      split at hl
      · split at hl
        · rename_i cap buf hg
          cases hl
          cases hx
          rename_i B hB
          obtain ⟨_, B', s, q, us, hB', hw, hc⟩ := h.ch hg
          rw [hB] at hB'; cases hB'
          refine ⟨rfl, .int .i64 buf.length, ?_, .i .i64 _⟩
          have hlen : buf.length = us.length := hc.length
          simp [Builtin.len_, run_under hu, goInt, getObj_run hw (fun _ _ _ e => by cases e), hlen]
        · cases hl
      · cases hl
        cases hx
        exact ⟨rfl, .int .i64 0, by simp [Builtin.len_, run_under hu, goInt], .i .i64 _⟩
      · cases hl
    · cases hl
  · cases hl

theorem cap_spec {t : TypeId} {r : List TypeId} {e : TypeId} {x v : AV} {u : Value} {st' : St} (he : elOf P t = some e) (hl : capV st x = some (v, st')) (hx : Conc E x u) (ty : TypeId) :
    st' = st ∧ ∃ z, (Builtin.cap_ (t :: r).toArray ty #[u]).run P w = .ok z w ∧ Conc E v z := by
  have hu := elOf_spec he
  unfold capV at hl
  split at hl
  · cases hl
    cases hx
    rename_i c a hn hh
    exact ⟨rfl, .int .i64 c, by simp [Builtin.cap_, run_under hu, goInt], .i .i64 _⟩
  · cases hl
    cases hx
    exact ⟨rfl, .int .i64 0, by simp [Builtin.cap_, run_under hu, goInt], .i .i64 _⟩
  · cases hl

theorem max_spec {as : List AV} {us : List Value} {v : AV} {st' : St} {ts : List TypeId} (hl : bMax P st ts as = some (v, st')) (hx : ConcL E as us) (ts' : Array TypeId) (ty : TypeId) :
    st' = st ∧ ∃ z, (Builtin.max_ ts' ty us.toArray).run P w = .ok z w ∧ Conc E v z := by
  unfold bMax at hl
  split at hl
  · cases hl
    rename_i k a k' b
    cases hx with | cons _ _ u us h t =>
    cases t with | cons _ _ u' us' h' t' =>
    cases t'; cases h; cases h'
    refine ⟨rfl, .int k (if b > a then b else a), by simp [Builtin.max_, Builtin.max2], ?_⟩
    have : (@Bool.rec (fun _ => Int) a b (ilt a b)) = if b > a then b else a := by
      rw [ilt_eq]
      by_cases hh : a < b <;> simp [hh]
    rw [this]
    exact .i k _
  · cases hl

theorem min_spec {as : List AV} {us : List Value} {v : AV} {st' : St} {ts : List TypeId} (hl : bMin P st ts as = some (v, st')) (hx : ConcL E as us) (ts' : Array TypeId) (ty : TypeId) :
    st' = st ∧ ∃ z, (Builtin.min_ ts' ty us.toArray).run P w = .ok z w ∧ Conc E v z := by
  unfold bMin at hl
  split at hl
  · cases hl
    rename_i k a k' b
    cases hx with | cons _ _ u us h t =>
    cases t with | cons _ _ u' us' h' t' =>
    cases t'; cases h; cases h'
    refine ⟨rfl, .int k (if b < a then b else a), by simp [Builtin.min_, Builtin.min2], ?_⟩
    have : (@Bool.rec (fun _ => Int) a b (ilt b a)) = if b < a then b else a := by
      rw [ilt_eq]
      by_cases hh : b < a <;> simp [hh]
    rw [this]
    exact .i k _
  · cases hl

end

end

end Go.Ev
