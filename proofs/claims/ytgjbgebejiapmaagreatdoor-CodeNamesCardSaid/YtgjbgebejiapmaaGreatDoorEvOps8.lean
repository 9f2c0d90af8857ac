/- Each operation does in the model's memory what it does in the abstract state: the small ones, and all that call no Go function together. -/
import Derived.Test.YtgjbgebejiapmaaGreatDoorEvOps7
import Derived.Laws.MakeOwn
namespace Go.Ev

noncomputable section

/-- A run that gives what the abstract state says. -/
def Gives (E : Env) (w : World) (st st' : St) (v : AV) (r : Result Next) : Prop :=
  ∃ E' w' cv, (r = .ok (.value cv) w' ∨ (r = .ok .skip w' ∧ cv = undef)) ∧ StepW E E' w w' st st' ∧ Conc E' v cv

section
variable {P : Program} {w : World} {E : Env} {st : St}

theorem gives_val {s : Sem Value} {v : AV} {z : Value} (h : Rel E w.heap st) (hr : s.run P w = .ok z w) (hc : Conc E v z) : Gives E w st st v ((do pure (.value (← s)) : Sem Next).run P w) :=
  ⟨E, w, z, .inl (by rw [Sem.run_bind, hr]; rfl), .refl h, hc⟩

theorem gives_step {s : Sem Value} {v : AV} {z : Value} {E' : Env} {w' : World} {st' : St} (hr : s.run P w = .ok z w') (hs : StepW E E' w w' st st') (hc : Conc E' v z) : Gives E w st st' v ((do pure (.value (← s)) : Sem Next).run P w) :=
  ⟨E', w', z, .inl (by rw [Sem.run_bind, hr]; rfl), hs, hc⟩

theorem gives_unit {s : Sem Unit} {w' : World} {st' : St} (hr : s.run P w = .ok () w') (hs : StepW E E w w' st st') : Gives E w st st' .un ((do s; pure .skip : Sem Next).run P w) :=
  ⟨E, w', undef, .inr ⟨by rw [Sem.run_bind, hr]; rfl, rfl⟩, hs, .un⟩

theorem give_spec {v : AV} {st' : St} {o : Option AV} (h : give st o = some (v, st')) : o = some v ∧ st' = st := by
  cases o with
  | none => cases h
  | some x => cases h; exact ⟨rfl, rfl⟩
theorem done_spec {v : AV} {st' : St} {o : Option St} (h : done o = some (v, st')) : o = some st' ∧ v = .un := by
  cases o with
  | none => cases h
  | some x => cases h; exact ⟨rfl, rfl⟩

theorem asBool_run {x : AV} {u : Value} {b : Bool} (h : x.asB = some b) (hx : Conc E x u) : (asBool u).run P w = .ok b w := by
  have := AV.asB_some h; subst this
  cases hx; rfl

theorem allocC_spec (h : Rel E w.heap st) {l : Option (List AV)} {v : AV} {st' : St} (ha : allocC st l = some (v, st')) (hn : st'.next ≤ E.top) {us : Array Value} (t : TypeId) (hc : ∀ l', l = some l' → ConcL E l' us.toList) :
    ∃ E' w' z, (newRow t us).run P w = .ok z w' ∧ StepW E E' w w' st st' ∧ Conc E' v (.pointer (some z)) := by
  cases l with
  | none => cases ha
  | some l =>
    cases ha
    obtain ⟨E', w', h1, h2, h3⟩ := alloc_spec (P := P) h (show st.next + 1 ≤ E.top from hn) t (hc l rfl)
    refine ⟨E', w', _, h1, h2, ?_⟩
    have := Conc.p (E := E') st.next 0 _ h3
    simpa using this

theorem fillAg_spec {ρ : Operand → Value} {t : Tr AV} (hρ : ∀ x, Conc E (evO t x) (ρ x)) {place : Nat → Option (Nat × Nat)} {parts : List (Nat × Operand)} {z : Option (List AV)} {v : AV} {st' : St}
    (h : fillAg st place (vals t parts) z = some (v, st')) {us : Array Value} (hz : ∀ l, z = some l → ConcL E l us.toList) :
    st' = st ∧ ∃ us' : Array Value, Instr.fill place us (parts.map fun (i, x) => (i, ρ x)) = some us' ∧ Conc E v (.agg us') := by
  cases z with
  | none => cases h
  | some l =>
    simp only [fillAg] at h
    cases hf : fill place l (vals t parts) with
    | none => rw [hf] at h; cases h
    | some l' =>
      rw [hf] at h; cases h
      obtain ⟨us', h1, h2⟩ := fill_spec hρ parts l l' us hf (hz l rfl)
      exact ⟨rfl, us', h1, by simpa using Conc.ag (E := E) l' us'.toList h2⟩

theorem run_placeF : ∀ (l : List Field), (∀ f ∈ l, hasInfo P f.type = true) → (l.mapM fun f => (do pure (f.offset, ← sizeOf f.type) : Sem (Nat × Nat))).run P w = .ok (l.map fun f => (f.offset, szOf P f.type)) w
  | [], _ => by simp
  | f :: l, h => by
    simp only [List.mapM_cons, Sem.run_bind, run_size (h f (by simp)), Result.andThen_ok, Sem.run_pure, run_placeF l (fun g hg => h g (by simp [hg])), List.map_cons]

theorem build_spec {S : Self} {t : Tr AV} {ρ : Operand → Value} (hρ : ∀ x, Conc E (evO t x) (ρ x)) {ty : TypeId} {parts : Array (Nat × Operand)} {v : AV} {st' : St} (hb : opBuild ty parts P S t st = some (v, st')) :
    st' = st ∧ ∃ z, (Instr.build ty (parts.map fun (i, x) => (i, ρ x))).run P w = .ok z w ∧ Conc E v z := by
  unfold opBuild at hb
  obtain ⟨hwf, hb⟩ := brec hb
  unfold opBuild1 at hb
  split at hb
  · rename_i fs hu
    have hfs : ∀ f ∈ fs.toList, hasInfo P f.type = true := by
      simp only [wfTy, hu, List.all_eq_true] at hwf; exact hwf
    cases hz : zeroC P ty with
    | none => rw [hz] at hb; cases hb
    | some l =>
      obtain ⟨z, g1, g2, g3, g4⟩ := zeroC_spec (E := E) hz
      obtain ⟨rfl, us', k1, k2⟩ := fillAg_spec hρ hb (us := z.cells) (fun l' e => by rw [hz] at e; cases e; exact g2)
      refine ⟨rfl, .agg us', ?_, k2⟩
      have hp := run_placeF (P := P) (w := w) fs.toList hfs
      have hm : (fs.mapM fun f => (do pure (f.offset, ← sizeOf f.type) : Sem (Nat × Nat))).run P w = .ok (fs.map fun f => (f.offset, szOf P f.type)) w := by
        rw [Array.mapM_eq_mapM_toList, Sem.run_map, hp]
        rw [← Array.toList_map]
        simp only [Result.andThen_ok, Array.toArray_toList]
      have hpl : (fun i => (fs.map fun f => (f.offset, szOf P f.type))[i]?) = placeF P fs := by
        funext i
        simp only [placeF, Array.getElem?_map]
        cases fs[i]? <;> rfl
      simp only [Instr.build, Sem.run_bind, g1, Result.andThen_ok, run_under hu, hm]
      have k1' : Instr.fill (fun i => (fs.map fun f => (f.offset, szOf P f.type))[i]?) z.cells (parts.map fun (i, x) => (i, ρ x)).toList = some us' := by
        rw [hpl]; simpa using k1
      rw [k1']
      rfl
  · rename_i n e hu
    have hel : hasInfo P e = true := by simpa only [wfTy, hu] using hwf
    cases hz : zeroC P ty with
    | none => rw [hz] at hb; cases hb
    | some l =>
      obtain ⟨z, g1, g2, g3, g4⟩ := zeroC_spec (E := E) hz
      obtain ⟨rfl, us', k1, k2⟩ := fillAg_spec hρ hb (us := z.cells) (fun l' e => by rw [hz] at e; cases e; exact g2)
      refine ⟨rfl, .agg us', ?_, k2⟩
      simp only [Instr.build, Sem.run_bind, g1, Result.andThen_ok, run_under hu, run_size hel]
      have k1' : Instr.fill (fun i => some (i * szOf P e, szOf P e)) z.cells (parts.map fun (i, x) => (i, ρ x)).toList = some us' := by
        have : (fun i => some (i * szOf P e, szOf P e)) = placeE (szOf P e) := rfl
        rw [this]; simpa using k1
      rw [k1']
      rfl
  · cases hb

theorem rep_get {α : Type} (l : List α) : ∀ (n j : Nat), j < n * l.length → (rep n l)[j]? = l[j % l.length]?
  | 0, j, h => by simp at h
  | n + 1, j, h => by
    have hl : 0 < l.length := by
      rcases Nat.eq_zero_or_pos l.length with e | e
      · rw [e] at h; simp at h
      · exact e
    unfold rep
    rw [List.getElem?_append]
    split
    · rename_i hj; rw [Nat.mod_eq_of_lt hj]
    · rename_i hj
      have h' : j < n * l.length + l.length := by rw [← Nat.succ_mul]; exact h
      have hm : j % l.length = (j - l.length) % l.length := Nat.mod_eq_sub_mod (by omega)
      rw [rep_get l n (j - l.length) (by omega), hm]

theorem range_map_rep (z : Array Value) (n m : Nat) (h : z.size = m) : ((Array.range (n * m)).map (z[· % z.size]!)).toList = rep n z.toList := by
  subst h
  apply List.ext_getElem?
  intro j
  by_cases hj : j < n * z.size
  · rw [rep_get z.toList n j (by simpa using hj)]
    have hz : 0 < z.size := by
      rcases Nat.eq_zero_or_pos z.size with e | e
      · rw [e] at hj; simp at hj
      · exact e
    have hm := Nat.mod_lt j hz
    simp [hj, hm]
  · rw [List.getElem?_eq_none (by simpa using hj), List.getElem?_eq_none (by rw [rep_length]; simpa using hj)]

theorem rep_zero {α : Type} : ∀ n : Nat, rep n ([] : List α) = []
  | 0 => rfl
  | n + 1 => by simp [rep, rep_zero n]

/-- The cells of a row of zeros, as 'make' and a slice's literal have them. -/
theorem zeros_run {e : TypeId} {z : List AV} (hz : zeroC P e = some z) (n : Nat) : ∃ (zero : Array Value), (∀ (K : Array Value → Sem Value) w,
      (if n * szOf P e = 0 then (do let zero ← pure #[]; K zero) else (do let v ← zeroValue e; let zero ← pure v.cells; K zero) : Sem Value).run P w = (K zero).run P w) ∧
    ConcL E (rep n z) ((Array.range (n * szOf P e)).map (zero[· % zero.size]!)).toList := by
  obtain ⟨v, g1, g2, g3, g4⟩ := zeroC_spec (E := E) hz
  have hsz : v.cells.size = szOf P e := by have := g2.length; simp at this; omega
  by_cases h0 : n * szOf P e = 0
  · refine ⟨#[], fun K w => by rw [if_pos h0]; rfl, ?_⟩
    rw [h0]
    have : rep n z = [] := by
      rcases Nat.mul_eq_zero.1 h0 with hh | hh
      · subst hh; rfl
      · have : z = [] := List.length_eq_zero_iff.1 (by omega)
        subst this; exact rep_zero n
    rw [this]
    simpa using ConcL.nil
  · refine ⟨v.cells, fun K w => by rw [if_neg h0, Sem.run_bind, g1]; rfl, ?_⟩
    rw [range_map_rep v.cells n _ hsz]
    exact rep_conc g2 n

theorem newSl_spec (h : Rel E w.heap st) {len z : Nat} {l : List AV} {v : AV} {st' : St} (hs : newSl st len z (some l) = some (v, st')) (hn : st'.next ≤ E.top) {us : Array Value} (t : TypeId) (hc : ConcL E l us.toList) :
    ∃ E' w' a, (newRow t us).run P w = .ok a w' ∧ StepW E E' w w' st st' ∧ Conc E' v (.slice (some a) len len) := by
  cases hs
  obtain ⟨E', w', h1, h2, h3⟩ := alloc_spec (P := P) h (show st.next + 1 ≤ E.top from hn) t hc
  exact ⟨E', w', _, h1, h2, .slk st.next 0 len z len _ (Nat.le_refl _) (.inr ⟨_, h3, by simp⟩)⟩

theorem buildSlice_spec (h : Rel E w.heap st) {S : Self} {t : Tr AV} {ρ : Operand → Value} (hρ : ∀ x, Conc E (evO t x) (ρ x)) {ty : TypeId} {len : Nat} {parts : Array (Nat × Operand)} {v : AV} {st' : St}
    (hb : opBuildSlice ty len parts P S t st = some (v, st')) (hn : st'.next ≤ E.top) :
    ∃ E' w' z, (Instr.buildSlice ty len (parts.map fun (i, x) => (i, ρ x))).run P w = .ok z w' ∧ StepW E E' w w' st st' ∧ Conc E' v z := by
  unfold opBuildSlice at hb
  split at hb
  · cases hb
  · rename_i e he
    have hu := elOf_spec he
    cases hz : zeroC P e with
    | none => rw [hz] at hb; cases hb
    | some z =>
      rw [hz] at hb
      obtain ⟨hle, hb⟩ := brec hb
      obtain ⟨zero, g1, g2⟩ := zeros_run (E := E) hz len
      have hi : hasInfo P e = true := by obtain ⟨_, _, _, g3, _⟩ := zeroC_spec (E := E) hz; exact g3
      cases hf : fill (placeE (szOf P e)) (rep len z) (vals t parts.toList) with
      | none => rw [hf] at hb; cases hb
      | some l' =>
        rw [hf] at hb
        obtain ⟨us', h1, h2⟩ := fill_spec hρ parts.toList _ l' _ hf g2
        obtain ⟨E', w', a, k1, k2, k3⟩ := newSl_spec (P := P) h hb hn e h2
        refine ⟨E', w', _, ?_, k2, k3⟩
        have hle' : ¬ len * szOf P e > 2 ^ 24 := by have := Nat.le_of_ble_eq_true hle; omega
        have h1' : Instr.fill (fun i => some (i * szOf P e, szOf P e)) ((Array.range (len * szOf P e)).map (zero[· % zero.size]!)) (parts.map fun (i, x) => (i, ρ x)).toList = some us' := by
          have : (fun i => some (i * szOf P e, szOf P e)) = placeE (szOf P e) := rfl
          rw [this]; simpa using h1
        simp only [Instr.buildSlice, Sem.run_bind, run_under hu, Result.andThen_ok, run_size hi, if_neg hle', Sem.run_pure]
        refine (g1 (fun zero => _) w).trans ?_
        rw [h1']
        simp only [Sem.run_bind, k1, Result.andThen_ok, Sem.run_pure]

theorem zeroC_info {e : TypeId} {l : List AV} (hz : zeroC P e = some l) : ∃ i z, P.info? e = some i ∧ i.zero = some z ∧ ConcL E l z.cells.toList ∧ i.size = l.length ∧ hasInfo P e = true := by
  obtain ⟨z, g1, g2, g3, g4⟩ := zeroC_spec (E := E) hz
  obtain ⟨i, d, hi, hd⟩ := info_of g3
  have hs : szOf P e = i.size := by simp [szOf, hi]
  refine ⟨i, z, hi, ?_, g2, by omega, g3⟩
  have := g1 default
  simp only [zeroValue, Sem.run_bind, run_typeInfo' hi, Result.andThen_ok] at this
  cases hzz : i.zero with
  | none => rw [hzz] at this; cases this
  | some v => rw [hzz] at this; cases this; rfl

theorem made_conc {z : List AV} {v : Array Value} (h : ConcL E z v.toList) (n : Nat) : ConcL E (rep n z) (madeCells v (n * z.length)).toList := by
  have hl := h.length
  simp at hl
  unfold madeCells
  rw [range_map_rep v n _ hl.symm]
  exact rep_conc h n

theorem makeSlice_spec (h : Rel E w.heap st) {S : Self} {t : Tr AV} {ρ : Operand → Value} (hρ : ∀ x, Conc E (evO t x) (ρ x)) {ty : TypeId} {lx cx : Operand} {v : AV} {st' : St}
    (hb : opMakeSlice ty lx cx P S t st = some (v, st')) (hn : st'.next ≤ E.top) :
    ∃ E' w' z, (Instr.makeSlice ty (ρ lx) (ρ cx)).run P w = .ok z w' ∧ StepW E E' w w' st st' ∧ Conc E' v z := by
  unfold opMakeSlice at hb
  split at hb
  · rename_i e l c he hl hc
    have hu := elOf_spec he
    cases hz : zeroC P e with
    | none => rw [hz] at hb; cases hb
    | some z =>
      rw [hz] at hb
      obtain ⟨hle, hb⟩ := brec hb
      simp only [Bool.and_eq_true, Nat.ble_eq] at hle
      obtain ⟨hlc, hc1, hsz⟩ := hle
      cases hb
      obtain ⟨i, zv, hi1, hi2, g2, hs, hi⟩ := zeroC_info (E := E) hz
      obtain ⟨k, hk⟩ := natOf_spec hl (hρ lx)
      obtain ⟨k', hk'⟩ := natOf_spec hc (hρ cx)
      obtain ⟨E', w', h1, h2, h3⟩ := alloc_spec (P := P) h (show st.next + 1 ≤ E.top from hn) e (made_conc g2 c)
      refine ⟨E', w', .slice (some ⟨w.heap.size, 0, none⟩) l c, ?_, h2, .slk st.next 0 l _ c _ hlc (.inr ⟨_, h3, by simp⟩)⟩
      have hbc : (i.bytes : Int) * (c : Int) ≤ 281474976710656 := by
        have hb : byOf P e = i.bytes := by simp [byOf, hi1]
        rw [hb] at hsz
        have h1 : i.bytes * c ≤ 281474976710656 := by rw [Nat.mul_comm]; omega
        have h2 : ((i.bytes * c : Nat) : Int) ≤ 281474976710656 := by omega
        rwa [Int.natCast_mul] at h2
      rw [hk, hk']
      have := run_make (P := P) w ty e i zv hu hi1 hi2 k k' (Int.ofNat l) (Int.ofNat c) (Int.natCast_nonneg l) (Int.ofNat_le.2 hlc) hbc (by simp only [Int.ofNat_eq_natCast]; omega)
      rw [this, hs]
      simp only [newRow, Sem.run_bind, run_newObj, Result.andThen_ok, Sem.run_pure] at h1
      cases h1
      rfl
  · cases hb
end

end

end Go.Ev
