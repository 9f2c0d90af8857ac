/- Each operation does in the model's memory what it does in the abstract state: maps. -/
import Derived.Test.YtgjbgebejiapmaaGreatDoorEvOps6
namespace Go.Ev

noncomputable section

section
variable {P : Program} {w : World} {E : Env} {st : St}

theorem bytes_beq (a c : ByteArray) : (a == c) = decide (a = c) := by
  rw [beq_toListBytes, ← strEq, leq_eq, Bool.eq_iff_iff]
  simp only [decide_eq_true_eq]
  exact ⟨fun h => by
    have := nats_inj h
    cases a; cases c
    simp only at this
    rw [Array.toList_inj] at this
    rw [this], fun h => by rw [h]⟩

theorem eqS_spec {x y : AV} {u v : Value} {b : Bool} (h : eqS x y = some b) (hx : Conc E x u) (hy : Conc E y v) :
    (∃ k a c, u = .int k a ∧ v = .int k c ∧ b = decide (a = c)) ∨ (∃ a c, u = .string a ∧ v = .string c ∧ b = decide (a = c)) := by
  unfold eqS at h
  split at h
  · rename_i k a k' c
    obtain ⟨hk, h'⟩ := bor h
    rw [keq_eq, decide_eq_true_eq] at hk
    subst hk
    cases hx; cases hy
    exact .inl ⟨k, a, c, rfl, rfl, by rw [← h', ieq_eq]⟩
  · cases hx; cases hy; cases h
    rename_i a c
    exact .inr ⟨a, c, rfl, rfl, by rw [strEq, ← beq_toListBytes, bytes_beq]⟩
  · cases h

def keyDesc (kd : TypeDesc) (u : Value) : Prop := (∃ k k' n, kd = .int k ∧ u = .int k' n) ∨ (∃ s, kd = .string ∧ u = .string s)

theorem find_spec {kd : TypeDesc} {k : AV} {ku : Value} (hk : Conc E k ku) (hkd : keyDesc kd ku) : ∀ {es : List (AV × AV × Nat)} {ms : List MapEntry} {i : Nat} {r : Option (Nat × AV)}, find k es i = some r → ConcE E es ms →
    ∃ r', Instr.findNow kd ku ms i = some r' ∧ (match r, r' with
      | none, none => True
      | some (j, v), some (j', u) => j = j' ∧ Conc E v u ∧ i ≤ j ∧ ∃ m, ms[j - i]? = some m ∧ m.val = u ∧ m.key = ku
      | _, _ => False)
  | [], [], i, r, h, _ => by simp only [find, Option.some.injEq] at h; subst h; exact ⟨none, rfl, trivial⟩
  | (x, v, b) :: es, m :: ms, i, r, h, ⟨⟨h1, h2, h3⟩, ht⟩ => by
    simp only [find] at h
    cases he : eqS k x with
    | none => rw [he] at h; cases h
    | some q =>
      rw [he] at h
      have key : Instr.sameNow kd ku m.key = some q ∧ (q = true → m.key = ku) := by
        rcases eqS_spec he hk h1 with ⟨kk, a, c, rfl, hm, rfl⟩ | ⟨a, c, rfl, hm, rfl⟩
        · rw [hm]
          rcases hkd with ⟨k1, k2, n, rfl, hh⟩ | ⟨s, -, hh⟩
          · refine ⟨?_, fun e => ?_⟩
            · simp only [Instr.sameNow, if_true]; rfl
            · rw [decide_eq_true_eq] at e; rw [e]
          · cases hh
        · rw [hm]
          rcases hkd with ⟨k1, k2, n, rfl, hh⟩ | ⟨s, rfl, hh⟩
          · cases hh
          · refine ⟨by simp only [Instr.sameNow]; rw [bytes_beq], fun e => ?_⟩
            rw [decide_eq_true_eq] at e; rw [e]
      cases q with
      | true =>
        cases h
        exact ⟨some (i, m.val), by simp [Instr.findNow, key.1], rfl, h2, Nat.le_refl _, m, by simp, rfl, key.2 rfl⟩
      | false =>
        obtain ⟨r', g1, g2⟩ := find_spec hk hkd h ht
        refine ⟨r', by simp only [Instr.findNow, key.1]; exact g1, ?_⟩
        cases r with
        | none => cases r' with
          | none => trivial
          | some p => exact g2
        | some p =>
          obtain ⟨j, v'⟩ := p
          cases r' with
          | none => exact g2
          | some p' =>
            obtain ⟨j', u⟩ := p'
            obtain ⟨q1, q2, q3, m', q4, q5, q6⟩ := g2
            refine ⟨q1, q2, by omega, m', ?_, q5, q6⟩
            rw [show j - i = (j - (i + 1)) + 1 by omega]
            simpa using q4

theorem keyKind_spec {t : TypeId} (h : keyKind P t = true) : ∃ kt e kd, P.underlying t = some (.map kt e) ∧ P.underlying kt = some kd ∧ ((∃ k, kd = .int k) ∨ kd = .string) := by
  unfold keyKind at h
  split at h
  · rename_i kt e hu
    split at h
    · rename_i k hk; exact ⟨kt, e, _, hu, hk, .inl ⟨_, rfl⟩⟩
    · rename_i hk; exact ⟨kt, e, _, hu, hk, .inr rfl⟩
    · cases h
  · cases h

theorem checkKey_run {kt : TypeId} {kd : TypeDesc} (hk : P.underlying kt = some kd) (hkd : (∃ k, kd = .int k) ∨ kd = .string) (b : Bool) (u : Value) : (Instr.checkKey b 10000 kt u).run P w = .ok () w := by
  have key : ∀ n, (Instr.checkKey b (n + 1) kt u).run P w = .ok () w := by
    intro n
    rcases hkd with ⟨k, rfl⟩ | rfl
    · simp [Instr.checkKey, run_under hk]
    · simp [Instr.checkKey, run_under hk]
  exact key 9999

theorem keyFits_spec {t : TypeId} {k : AV} {u : Value} (h : keyFits P t k = true) (hk : Conc E k u) : ∃ kt e kd, P.underlying t = some (.map kt e) ∧ P.underlying kt = some kd ∧ ((∃ k, kd = .int k) ∨ kd = .string) ∧ keyDesc kd u := by
  unfold keyFits at h
  split at h
  · rename_i kt e hu
    split at h
    · rename_i kk k' n hkk
      cases hk
      exact ⟨kt, e, _, hu, hkk, .inl ⟨_, rfl⟩, .inl ⟨_, _, _, rfl, rfl⟩⟩
    · rename_i l hkk
      cases hk
      exact ⟨kt, e, _, hu, hkk, .inr rfl, .inr ⟨_, rfl, rfl⟩⟩
    · cases h
  · cases h

theorem Rel.mp (h : Rel E w.heap st) {r : Nat} {es : List (AV × AV × Nat)} {clock : Nat} (hr : st.get r = some (.mp es clock)) :
    ∃ B ents, E.phi r = some B ∧ w.heap[B.b]? = some (.map ents clock) ∧ ConcE E es ents.toList ∧ st.alive r = some (.mp es clock) := by
  have ha : st.alive r = some (.mp es clock) := by simp [St.alive, hr]
  obtain ⟨B, hB, ents, h1, h2⟩ := h.rows r _ ha
  exact ⟨B, ents, hB, h1, h2, ha⟩

theorem getObj_run {b : Nat} {o : Obj} (h : w.heap[b]? = some o) (hc : ∀ c e f, o ≠ .cells c e f) : (getObj b).run P w = .ok o w := by
  unfold getObj
  simp only [Sem.run, h]

theorem setObj_run {b : Nat} {o o' : Obj} (h : w.heap[b]? = some o) (hc : ∀ c e f, o ≠ .cells c e f) : (setObj b o').run P w = .ok () { w with heap := w.heap.setIfInBounds b o' } := by
  unfold setObj
  simp only [Sem.run, h]

/-- Each entry is the one that was asked for, or none is. -/
theorem findU_spec {kd : TypeDesc} {k : AV} {ku : Value} (hk : Conc E k ku) (hkd : keyDesc kd ku) : ∀ {es : List (AV × AV)} {ms : List MapEntry} {r : Option AV}, findU k es = some r → ConcU E es ms →
    (∀ m ∈ ms, (Instr.sameNow kd ku m.key = some true ∧ ∃ v, r = some v ∧ Conc E v m.val) ∨ Instr.sameNow kd ku m.key = some false) ∧ (∀ v, r = some v → ∃ m ∈ ms, Instr.sameNow kd ku m.key = some true)
  | [], [], r, h, _ => by cases h; exact ⟨fun m hm => by (cases hm), fun v hv => by cases hv⟩
  | (x, v) :: es, m :: ms, r, h, ⟨⟨h1, h2⟩, ht⟩ => by
    have key : ∀ {q : Bool}, eqS k x = some q → Instr.sameNow kd ku m.key = some q := by
      intro q he
      rcases eqS_spec he hk h1 with ⟨kk, a, c, rfl, hm, rfl⟩ | ⟨a, c, rfl, hm, rfl⟩
      · rw [hm]
        rcases hkd with ⟨k1, k2, n, rfl, hh⟩ | ⟨s, -, hh⟩
        · simp only [Instr.sameNow, if_true]; rfl
        · cases hh
      · rw [hm]
        rcases hkd with ⟨k1, k2, n, rfl, hh⟩ | ⟨s, rfl, hh⟩
        · cases hh
        · simp only [Instr.sameNow]; rw [bytes_beq]
    unfold findU at h
    cases he : eqS k x with
    | none => rw [he] at h; cases h
    | some q =>
      rw [he] at h
      have hq := key he
      cases q with
      | false =>
        obtain ⟨g1, g2⟩ := findU_spec hk hkd h ht
        refine ⟨fun m' hm' => ?_, fun v' hv' => ?_⟩
        · rcases List.mem_cons.1 hm' with rfl | hm'
          · exact .inr hq
          · exact g1 m' hm'
        · obtain ⟨m', a, b⟩ := g2 v' hv'
          exact ⟨m', List.mem_cons_of_mem _ a, b⟩
      | true =>
        cases hf : findU k es with
        | none => rw [hf] at h; cases h
        | some r' =>
          rw [hf] at h
          cases r' with
          | some _ => cases h
          | none =>
            cases h
            obtain ⟨g1, _⟩ := findU_spec hk hkd hf ht
            refine ⟨fun m' hm' => ?_, fun v' hv' => ⟨m, List.mem_cons_self .., hq⟩⟩
            rcases List.mem_cons.1 hm' with rfl | hm'
            · exact .inl ⟨hq, v, rfl, h2⟩
            · rcases g1 m' hm' with ⟨_, v', hv', _⟩ | hh
              · cases hv'
              · exact .inr hh

theorem findNow_of {kd : TypeDesc} {ku : Value} : ∀ {ms : List MapEntry} (i : Nat), (∀ m ∈ ms, Instr.sameNow kd ku m.key = some true ∨ Instr.sameNow kd ku m.key = some false) →
    (Instr.findNow kd ku ms i = some none ∧ ∀ m ∈ ms, Instr.sameNow kd ku m.key = some false) ∨ ∃ j m, m ∈ ms ∧ Instr.findNow kd ku ms i = some (some (j, m.val)) ∧ Instr.sameNow kd ku m.key = some true
  | [], i, _ => .inl ⟨rfl, fun m hm => by cases hm⟩
  | m :: ms, i, h => by
    rcases h m (List.mem_cons_self ..) with h1 | h1
    · exact .inr ⟨i, m, List.mem_cons_self .., by simp [Instr.findNow, h1], h1⟩
    · rcases findNow_of (i + 1) fun m' hm' => h m' (List.mem_cons_of_mem _ hm') with ⟨g1, g2⟩ | ⟨j, m', g1, g2, g3⟩
      · refine .inl ⟨by simp only [Instr.findNow, h1]; exact g1, fun m' hm' => ?_⟩
        rcases List.mem_cons.1 hm' with rfl | hm'
        · exact h1
        · exact g2 m' hm'
      · exact .inr ⟨j, m', List.mem_cons_of_mem _ g1, by simp only [Instr.findNow, h1]; exact g2, g3⟩

theorem Rel.mu (h : Rel E w.heap st) {r : Nat} {es : List (AV × AV)} (hr : st.get r = some (.mu es)) :
    ∃ B ents clock ms, E.phi r = some B ∧ w.heap[B.b]? = some (.map ents clock) ∧ ConcU E es ms ∧ ents.toList.Perm ms := by
  have : st.alive r = some (.mu es) := by unfold St.alive; rw [hr]
  obtain ⟨B, hB, ents, c, ms, h1, h2, h3⟩ := h.rows _ _ this
  exact ⟨B, ents, c, ms, hB, h1, h2, h3⟩

theorem Rel.ch (h : Rel E w.heap st) {r cap : Nat} {buf : List AV} (hr : st.get r = some (.ch cap buf)) :
    st.alive r = some (.ch cap buf) ∧ ∃ B s q us, E.phi r = some B ∧ w.heap[B.b]? = some (.chan cap (List.toArray us) false s q false) ∧ ConcL E buf us := by
  have : st.alive r = some (.ch cap buf) := by unfold St.alive; rw [hr]
  obtain ⟨B, hB, s, q, us, h1, h2⟩ := h.rows _ _ this
  exact ⟨this, B, s, q, us, hB, h1, h2⟩

theorem lookup_spec (h : Rel E w.heap st) {t : TypeId} {x k v : AV} {ux uk : Value} {ok : Bool} (hl : lookup P t st x k ok = some v) (hx : Conc E x ux) (hk : Conc E k uk) :
    ∃ z, (Instr.lookup t ux uk ok).run P w = .ok z w ∧ Conc E v z := by
  unfold lookup at hl
  split at hl
  · rename_i kt e hu
    cases hz : zeroOf P e with
    | none => rw [hz] at hl; cases hl
    | some zv =>
      rw [hz] at hl
      simp only at hl
      obtain ⟨hkf, hl⟩ := brec hl
      obtain ⟨z, rfl, hzr⟩ := zero_of hz
      obtain ⟨kt', e', kd, hu', hkd, hkk, hdesc⟩ := keyFits_spec hkf hk
      rw [hu] at hu'; cases hu'
      have back : ∀ (v : AV) (u : Value) (b : Bool), Conc E v u → Conc E (bif ok then .tu [v, .b b] else v) (if ok then .tuple #[u, .bool b] else u) := by
        intro v u b hv
        cases ok with
        | true => exact .tu _ [u, .bool b] (.cons _ _ _ _ hv (.cons _ _ _ _ (.b b) .nil))
        | false => exact hv
      cases hx with
      | m r B hB =>
        cases hg : st.get r with
        | none => simp only [hg] at hl; cases hl
        | some row =>
          cases row with
          | mp es clock =>
            simp only [hg] at hl
            obtain ⟨B', ents, hB', h1, h2, -⟩ := h.mp hg
            rw [hB] at hB'; cases hB'
            cases hf : find k es 0 with
            | none => rw [hf] at hl; cases hl
            | some rr =>
              obtain ⟨r', g1, g2⟩ := find_spec hk hdesc hf h2
              rw [hf] at hl
              have hgo := getObj_run (P := P) h1 (by intros; exact Obj.noConfusion)
              cases rr with
              | none =>
                cases r' with
                | some p => exact g2.elim
                | none =>
                  simp only [Option.some.injEq] at hl
                  subst hl
                  refine ⟨if ok then .tuple #[z, .bool false] else z, ?_, back _ _ _ (ofVal_conc z)⟩
                  simp only [Instr.lookup, Sem.run_bind, run_under hu, Result.andThen_ok, hgo, Sem.run_pure, checkKey_run hkd hkk, Instr.findKey, run_under hkd, g1, hzr]
              | some p =>
                obtain ⟨j, vv⟩ := p
                cases r' with
                | none => exact g2.elim
                | some p' =>
                  obtain ⟨j', u⟩ := p'
                  simp only [Option.some.injEq] at hl
                  subst hl
                  refine ⟨if ok then .tuple #[u, .bool true] else u, ?_, back _ _ _ g2.2.1⟩
                  simp only [Instr.lookup, Sem.run_bind, run_under hu, Result.andThen_ok, hgo, Sem.run_pure, checkKey_run hkd hkk, Instr.findKey, run_under hkd, g1]
          | mu es =>
            simp only [hg] at hl
            obtain ⟨B', ents, clock, ms, hB', h1, h2, h3⟩ := h.mu hg
            rw [hB] at hB'; cases hB'
            have hgo := getObj_run (P := P) h1 (by intros; exact Obj.noConfusion)
            cases hf : findU k es with
            | none => rw [hf] at hl; cases hl
            | some rr =>
              rw [hf] at hl
              obtain ⟨g1, g2⟩ := findU_spec hk hdesc hf h2
              have g1' : ∀ m ∈ ents.toList, _ := fun m hm => g1 m (h3.mem_iff.1 hm)
              rcases findNow_of 0 (fun m hm => (g1' m hm).imp (·.1) id) with ⟨q1, q2⟩ | ⟨j, m, q0, q1, q2⟩
              · cases rr with
                | none =>
                  simp only [Option.some.injEq] at hl
                  subst hl
                  refine ⟨if ok then .tuple #[z, .bool false] else z, ?_, back _ _ _ (ofVal_conc z)⟩
                  simp only [Instr.lookup, Sem.run_bind, run_under hu, Result.andThen_ok, hgo, Sem.run_pure, checkKey_run hkd hkk, Instr.findKey, run_under hkd, q1, hzr]
                | some vv =>
                  obtain ⟨m, hm, hs⟩ := g2 vv rfl
                  have := q2 m (h3.mem_iff.2 hm)
                  rw [this] at hs; cases hs
              · rcases g1' m q0 with ⟨_, vv, rfl, hc⟩ | hh
                · simp only [Option.some.injEq] at hl
                  subst hl
                  refine ⟨if ok then .tuple #[m.val, .bool true] else m.val, ?_, back _ _ _ hc⟩
                  simp only [Instr.lookup, Sem.run_bind, run_under hu, Result.andThen_ok, hgo, Sem.run_pure, checkKey_run hkd hkk, Instr.findKey, run_under hkd, q1]
                · rw [q2] at hh; cases hh
          | _ => simp only [hg] at hl; cases hl
      | mn =>
        simp only [Option.some.injEq] at hl
        subst hl
        refine ⟨if ok then .tuple #[z, .bool false] else z, ?_, back _ _ _ (ofVal_conc z)⟩
        have g1 : Instr.findNow kd uk ([] : List MapEntry) 0 = some none := rfl
        simp only [Instr.lookup, Sem.run_bind, run_under hu, Result.andThen_ok, Sem.run_pure, checkKey_run hkd hkk, Instr.findKey, run_under hkd, g1, hzr]
      | _ => cases hl
  · cases hl

theorem ConcE.setVal {v : AV} {u : Value} (hv : Conc E v u) : ∀ {es : List (AV × AV × Nat)} {ms : List MapEntry} (i : Nat), ConcE E es ms → ConcE E (setVal es i v) (ms.modify i fun e => { e with val := u })
  | [], [], i, _ => by cases i <;> exact trivial
  | (k, x, b) :: es, m :: ms, 0, ⟨⟨h1, h2, h3⟩, ht⟩ => ⟨⟨h1, hv, h3⟩, ht⟩
  | e :: es, m :: ms, i + 1, ⟨h1, ht⟩ => ⟨h1, ConcE.setVal hv i ht⟩

theorem ConcE.snoc {k v : AV} {ku vu : Value} {c : Nat} (hk : Conc E k ku) (hv : Conc E v vu) : ∀ {es : List (AV × AV × Nat)} {ms : List MapEntry}, ConcE E es ms → ConcE E (es ++ [(k, v, c)]) (ms ++ [{ key := ku, val := vu, born := c }])
  | [], [], _ => ⟨⟨hk, hv, rfl⟩, trivial⟩
  | _ :: _, _ :: _, ⟨h1, ht⟩ => ⟨h1, ConcE.snoc hk hv ht⟩

theorem ConcE.dropAt : ∀ {es : List (AV × AV × Nat)} {ms : List MapEntry} (i : Nat), ConcE E es ms → ConcE E (dropAt es i) (ms.eraseIdx i)
  | [], [], i, _ => by cases i <;> exact trivial
  | _ :: _, _ :: _, 0, ⟨_, ht⟩ => ht
  | _ :: _, _ :: _, i + 1, ⟨h1, ht⟩ => ⟨h1, ConcE.dropAt i ht⟩

theorem ConcE.length : ∀ {es : List (AV × AV × Nat)} {ms : List MapEntry}, ConcE E es ms → es.length = ms.length
  | [], [], _ => rfl
  | _ :: _, _ :: _, ⟨_, ht⟩ => by simp [ConcE.length ht]

theorem sameBits_self {kd : TypeDesc} {u : Value} (h : keyDesc kd u) (n : Nat) : Instr.sameBits n u u = true := by
  rcases h with ⟨k, k', m, -, rfl⟩ | ⟨s, -, rfl⟩
  · cases n <;> simp [Instr.sameBits]
  · cases n <;> (simp only [Instr.sameBits]; rw [bytes_beq]; simp)

theorem mapUpdate_spec (h : Rel E w.heap st) {t : TypeId} {x k v : AV} {ux uk uv : Value} {st' : St} (hl : mapUpdate P t st x k v = some st') (hx : Conc E x ux) (hk : Conc E k uk) (hv : Conc E v uv) :
    ∃ w', (Instr.mapUpdate t ux uk uv).run P w = .ok () w' ∧ StepW E E w w' st st' := by
  unfold mapUpdate at hl
  obtain ⟨hkf, hl⟩ := brec hl
  obtain ⟨kt, e, kd, hu, hkd, hkk, hdesc⟩ := keyFits_spec hkf hk
  cases hx with
  | m r B hB =>
    cases hg : st.get r with
    | none => simp only [hg] at hl; cases hl
    | some row =>
      cases row with
      | mp es clock =>
        simp only [hg] at hl
        obtain ⟨B', ents, hB', h1, h2, halive⟩ := h.mp hg
        rw [hB] at hB'; cases hB'
        cases hf : find k es 0 with
        | none => rw [hf] at hl; cases hl
        | some rr =>
          obtain ⟨r', g1, g2⟩ := find_spec hk hdesc hf h2
          rw [hf] at hl
          have hgo := getObj_run (P := P) h1 (by intros; exact Obj.noConfusion)
          cases rr with
          | none =>
            cases r' with
            | some p => exact g2.elim
            | none =>
              cases hl
              refine ⟨{ w with heap := w.heap.setIfInBounds B.b (.map (ents.push { key := uk, val := uv, born := clock }) (clock + 1)) }, ?_, ?_⟩
              · simp only [Instr.mapUpdate, Sem.run_bind, run_under hu, Result.andThen_ok, hgo, checkKey_run hkd hkk, Instr.findKey, run_under hkd, g1, Sem.run_pure]
                exact setObj_run h1 (by intros; exact Obj.noConfusion)
              · exact StepW.of <| Step.putRow h halive hB (by intros; exact Row.noConfusion) (by intros; exact Row.noConfusion) _ (fun H' hH' => ⟨_, hH', by simpa using h2.snoc hk hv⟩)
          | some p =>
            obtain ⟨j, vv⟩ := p
            cases r' with
            | none => exact g2.elim
            | some p' =>
              obtain ⟨j', u⟩ := p'
              obtain ⟨rfl, hcv, -, m, hm, rfl, hmk⟩ := g2
              cases hl
              have hm' : ents[j]? = some m := by simpa using hm
              refine ⟨{ w with heap := w.heap.setIfInBounds B.b (.map (ents.modify j fun e => { e with key := uk, val := uv }) clock) }, ?_, ?_⟩
              · simp only [Instr.mapUpdate, Sem.run_bind, run_under hu, Result.andThen_ok, hgo, checkKey_run hkd hkk, Instr.findKey, run_under hkd, g1, Sem.run_pure, hm', Option.map_some, Option.getD_some, hmk,
                  Instr.keyThatStays, sameBits_self hdesc, if_true]
                exact setObj_run h1 (by intros; exact Obj.noConfusion)
              · refine StepW.of <| Step.putRow h halive hB (by intros; exact Row.noConfusion) (by intros; exact Row.noConfusion) _ (fun H' hH' => ⟨_, hH', ?_⟩)
                have e1 : (ents.modify j fun e => { e with key := uk, val := uv }).toList = ents.toList.modify j fun e => { e with val := uv } := by
                  rw [Array.toList_modify]
                  apply List.ext_getElem?
                  intro q
                  rw [List.getElem?_modify, List.getElem?_modify]
                  by_cases hq : j = q
                  · subst hq
                    rw [Array.getElem?_toList, hm']
                    simp [hmk]
                  · simp [hq]
                rw [e1]
                exact h2.setVal hv j
      | _ => simp only [hg] at hl; cases hl
  | _ => cases hl

theorem bornAt_eq : ∀ {es : List (AV × AV × Nat)} {ms : List MapEntry} (i : Nat) (m : MapEntry), ConcE E es ms → ms[i]? = some m → bornAt es i = m.born
  | [], [], i, m, _, h => by simp at h
  | (k, x, b) :: es, m' :: ms, 0, m, ⟨⟨_, _, h3⟩, _⟩, h => by simp at h; subst h; exact h3.symm
  | e :: es, m' :: ms, i + 1, m, ⟨_, ht⟩, h => bornAt_eq i m ht (by simpa using h)

theorem findBorn_eq {b : Nat} : ∀ {es : List (AV × AV × Nat)} {ms : List MapEntry} (n : Nat), ConcE E es ms → findBorn b es n = (ms.findIdx? fun e => (e.born : Int) == (b : Int)).map (· + n)
  | [], [], n, _ => rfl
  | (k, x, c) :: es, m :: ms, n, ⟨⟨_, _, h3⟩, ht⟩ => by
    have e : findBorn b ((k, x, c) :: es) n = @Bool.rec (fun _ => Option Nat) (findBorn b es (n + 1)) (some n) (Nat.beq c b) := rfl
    rw [e, findBorn_eq (n + 1) ht, List.findIdx?_cons]
    have h3' : m.born = c := h3
    rw [h3', nbeq]
    by_cases hc : c = b
    · subst hc; simp
    · have : ((c : Int) == (b : Int)) = false := by simp; omega
      rw [decide_eq_false hc, this]
      simp only [Bool.false_eq_true, if_false, Option.map_map]
      congr 1
      funext i
      simp; omega

theorem mapEntry_spec (h : Rel E w.heap st) {t : TypeId} {x k v : AV} {ux uk : Value} {st' : St} (hl : mapEntry P t st x k = some (v, st')) (hx : Conc E x ux) (hk : Conc E k uk) :
    ∃ w' z, (Instr.mapEntry t ux uk).run P w = .ok z w' ∧ StepW E E w w' st st' ∧ Conc E v z := by
  unfold mapEntry at hl
  obtain ⟨hkf, hl⟩ := brec hl
  obtain ⟨kt, e', kd, hu, hkd, hkk, hdesc⟩ := keyFits_spec hkf hk
  split at hl
  case h_2 => cases hl
  rename_i kt2 e r hu2 _
  rw [hu] at hu2; cases hu2
  cases hx with
  | m r B hB =>
    unfold entryIn at hl
    split at hl
    case h_2 => cases hl
    rename_i es clock hg
    obtain ⟨B', ents, hB', h1, h2, halive⟩ := h.mp hg
    rw [hB] at hB'; cases hB'
    have hgo := getObj_run (P := P) h1 (by intros; exact Obj.noConfusion)
    cases hf : find k es 0 with
    | none => rw [hf] at hl; cases hl
    | some rr =>
      obtain ⟨r', g1, g2⟩ := find_spec hk hdesc hf h2
      rw [hf] at hl
      cases rr with
      | none =>
        cases r' with
        | some p => exact g2.elim
        | none =>
          simp only at hl
          unfold entryNew at hl
          split at hl
          case h_2 => cases hl
          rename_i zv hz
          obtain ⟨z, rfl, hzr⟩ := zero_of hz
          cases hl
          refine ⟨{ w with heap := w.heap.setIfInBounds B.b (.map (ents.push { key := uk, val := z, born := clock }) (clock + 1)) }, .tuple #[z, goInt clock], ?_, ?_, ?_⟩
          · simp only [Instr.mapEntry, Sem.run_bind, run_under hu, Result.andThen_ok, hgo, checkKey_run hkd hkk, Instr.findKey, run_under hkd, g1, Sem.run_pure, hzr]
            rw [setObj_run h1 (by intros; exact Obj.noConfusion)]
            rfl
          · exact StepW.of <| Step.putRow h halive hB (by intros; exact Row.noConfusion) (by intros; exact Row.noConfusion) _ (fun H' hH' => ⟨_, hH', by simpa using h2.snoc hk (ofVal_conc z)⟩)
          · exact .tu _ [z, .int .i64 (Int.ofNat clock)] (.cons _ _ _ _ (ofVal_conc z) (.cons _ _ _ _ (.i _ _) .nil))
      | some p =>
        obtain ⟨j, vv⟩ := p
        cases r' with
        | none => exact g2.elim
        | some p' =>
          obtain ⟨j', u⟩ := p'
          obtain ⟨rfl, hcv, -, m, hm, rfl, hmk⟩ := g2
          cases hl
          have hm' : ents[j]? = some m := by simpa using hm
          have hb : bornAt es j = m.born := bornAt_eq j m h2 hm
          refine ⟨{ w with heap := w.heap.setIfInBounds B.b (.map (ents.modify j fun e => { e with key := uk }) clock) }, .tuple #[m.val, goInt m.born], ?_, ?_, ?_⟩
          · simp only [Instr.mapEntry, Sem.run_bind, run_under hu, Result.andThen_ok, hgo, checkKey_run hkd hkk, Instr.findKey, run_under hkd, g1, Sem.run_pure, hm', Option.map_some, Option.getD_some, hmk,
              Instr.keyThatStays, sameBits_self hdesc, if_true]
            rw [setObj_run h1 (by intros; exact Obj.noConfusion)]
            rfl
          · refine StepW.of <| Step.putRow h halive hB (by intros; exact Row.noConfusion) (by intros; exact Row.noConfusion) _ (fun H' hH' => ⟨_, hH', ?_⟩)
            have e1 : (ents.modify j fun e => { e with key := uk }).toList = ents.toList := by
              rw [Array.toList_modify]
              apply List.ext_getElem?
              intro q
              rw [List.getElem?_modify]
              by_cases hq : j = q
              · subst hq
                rw [Array.getElem?_toList, hm']
                simp [hmk]
                cases m
                simp_all
              · simp [hq]
            rw [e1]
            exact h2
          · rw [hb]
            exact .tu _ [m.val, .int .i64 (Int.ofNat m.born)] (.cons _ _ _ _ hcv (.cons _ _ _ _ (.i _ _) .nil))

theorem entryStore_spec (h : Rel E w.heap st) {t : TypeId} {x s v : AV} {ux us uv : Value} {st' : St} (hl : entryStore st v x (natOf s) = some st') (hx : Conc E x ux) (hs : Conc E s us) (hv : Conc E v uv) :
    ∃ w', (Instr.entryStore t ux us uv).run P w = .ok () w' ∧ StepW E E w w' st st' := by
  cases hn : natOf s with
  | none => rw [hn] at hl; cases x <;> cases hl
  | some b =>
    obtain ⟨kk, rfl⟩ := natOf_some hn
    cases hs
    rw [hn] at hl
    cases hx with
    | m r B hB =>
      simp only [entryStore] at hl
      split at hl
      case h_2 => cases hl
      rename_i es clock hg
      obtain ⟨B', ents, hB', h1, h2, halive⟩ := h.mp hg
      rw [hB] at hB'; cases hB'
      have hgo := getObj_run (P := P) h1 (by intros; exact Obj.noConfusion)
      rw [findBorn_eq 0 h2] at hl
      cases hf : ents.toList.findIdx? (fun e => (e.born : Int) == (b : Int)) with
      | none => rw [hf] at hl; cases hl
      | some i =>
        rw [hf] at hl
        cases hl
        have hf' : ents.findIdx? (fun e => (e.born : Int) == Int.ofNat b) = some i := by
          have e : ents.findIdx? (fun e => (e.born : Int) == Int.ofNat b) = ents.toList.findIdx? (fun e => (e.born : Int) == Int.ofNat b) := by
            conv => lhs; rw [show ents = ents.toList.toArray from rfl]
            rw [List.findIdx?_toArray]
          rw [e]; exact hf
        refine ⟨{ w with heap := w.heap.setIfInBounds B.b (.map (ents.modify i fun e => { e with val := uv }) clock) }, ?_, ?_⟩
        · simp only [Instr.entryStore, Sem.run_bind, Result.andThen_ok, hgo, asInt, asIntOf, Sem.run_pure, hf']
          exact setObj_run h1 (by intros; exact Obj.noConfusion)
        · refine StepW.of <| Step.putRow h halive hB (by intros; exact Row.noConfusion) (by intros; exact Row.noConfusion) _ (fun H' hH' => ⟨_, hH', ?_⟩)
          rw [Array.toList_modify]
          exact h2.setVal hv i
    | _ => simp only [entryStore] at hl; cases hl

theorem delete_spec (h : Rel E w.heap st) {t : TypeId} {ts : List TypeId} {x k : AV} {ux uk : Value} {st' : St} (hl : delete P t st x k = some st') (hx : Conc E x ux) (hk : Conc E k uk) (ty : TypeId) :
    ∃ w', (Builtin.delete_ (t :: ts).toArray ty #[ux, uk]).run P w = .ok (.tuple #[]) w' ∧ StepW E E w w' st st' := by
  unfold delete at hl
  obtain ⟨hkf, hl⟩ := brec hl
  obtain ⟨kt, e, kd, hu, hkd, hkk, hdesc⟩ := keyFits_spec hkf hk
  cases hx with
  | m r B hB =>
    cases hg : st.get r with
    | none => simp only [hg] at hl; cases hl
    | some row =>
      cases row with
      | mp es clock =>
        simp only [hg] at hl
        obtain ⟨B', ents, hB', h1, h2, halive⟩ := h.mp hg
        rw [hB] at hB'; cases hB'
        cases hf : find k es 0 with
        | none => rw [hf] at hl; cases hl
        | some rr =>
          obtain ⟨r', g1, g2⟩ := find_spec hk hdesc hf h2
          rw [hf] at hl
          have hgo := getObj_run (P := P) h1 (by intros; exact Obj.noConfusion)
          have hset : ∀ o, (setObj B.b o).run P w = .ok () { w with heap := w.heap.setIfInBounds B.b o } := fun o => setObj_run h1 (by intros; exact Obj.noConfusion)
          cases rr with
          | none =>
            cases r' with
            | some p => exact g2.elim
            | none =>
              cases hl
              refine ⟨{ w with heap := w.heap.setIfInBounds B.b (.map ents clock) }, ?_, ?_⟩
              · simp [Builtin.delete_, run_under hu, hgo, checkKey_run hkd hkk, Instr.findKey, run_under hkd, g1, hset]
              · have e : w.heap.setIfInBounds B.b (.map ents clock) = w.heap := by
                  obtain ⟨hlt, he⟩ := Array.getElem?_eq_some_iff.1 h1
                  apply Array.ext
                  · simp
                  · intro j g1 g2
                    by_cases hq : j = B.b
                    · subst hq; simp [he]
                    · rw [Array.getElem_setIfInBounds_ne _ (Ne.symm hq)]
                simp only [e]
                exact .refl h
          | some p =>
            obtain ⟨j, vv⟩ := p
            cases r' with
            | none => exact g2.elim
            | some p' =>
              obtain ⟨j', u⟩ := p'
              obtain ⟨rfl, hcv, -, m, hm, rfl, hmk⟩ := g2
              cases hl
              refine ⟨{ w with heap := w.heap.setIfInBounds B.b (.map (ents.eraseIdxIfInBounds j) clock) }, ?_, ?_⟩
              · simp [Builtin.delete_, run_under hu, hgo, checkKey_run hkd hkk, Instr.findKey, run_under hkd, g1, hset]
              · refine StepW.of <| Step.putRow h halive hB (by intros; exact Row.noConfusion) (by intros; exact Row.noConfusion) _ (fun H' hH' => ⟨_, hH', ?_⟩)
                have e1 : (ents.eraseIdxIfInBounds j).toList = ents.toList.eraseIdx j := by simp
                rw [e1]
                exact h2.dropAt j
      | _ => simp only [hg] at hl; cases hl
  | mn =>
    cases hl
    exact ⟨w, by simp [Builtin.delete_, run_under hu, checkKey_run hkd hkk], .refl h⟩
  | _ => cases hl
end

end

end Go.Ev
