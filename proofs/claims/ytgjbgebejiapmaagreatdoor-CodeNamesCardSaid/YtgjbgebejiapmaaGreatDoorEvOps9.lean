/- Each operation does in the model's memory what it does in the abstract state: iterators, interfaces, conversions, built-in functions. -/
import Derived.Test.YtgjbgebejiapmaaGreatDoorEvOps8
namespace Go.Ev

noncomputable section

section
variable {P : Program} {w : World} {E : Env} {st : St}

theorem Rel.row (h : Rel E w.heap st) {r : Nat} {row : Row} (hr : st.get r = some row) (hce : ∀ l g, row ≠ .ce l g) (hty : ∀ t r0 x, row ≠ .ty t r0 x := by (intro _ _ _ h; cases h)) : ∃ B, E.phi r = some B ∧ RowOK E w.heap B row ∧ st.alive r = some row := by
  have ha : st.alive r = some row := by
    unfold St.alive
    rw [hr]
    cases row with
    | ce l g => exact absurd rfl (hce l g)
    | mp => rfl
    | si => rfl
    | mi => rfl
    | lp => rfl
    | mu => rfl
    | ch => rfl
    | ty t r0 x => exact absurd rfl (hty t r0 x)
  obtain ⟨B, hB, hR⟩ := h.rows r row ha
  exact ⟨B, hB, hR, ha⟩

theorem newRow_gives (h : Rel E w.heap st) (hn : st.next + 1 ≤ E.top) (o : Obj) (row : Row) (hce : ∀ l g, row ≠ .ce l g)
    (hrow : ∀ F, E.le F → RowOK F (w.heap.push o) ⟨w.heap.size, 0, 0⟩ row) :
    StepW E (E.bind st.next ⟨w.heap.size, 0, 0⟩) w { w with heap := w.heap.push o } st (st.new row) := .of (Step.newRow h hn o row hce hrow)

theorem rangeOf_spec (h : Rel E w.heap st) {ty : TypeId} {x v : AV} {u : Value} {st' : St} (hr : rangeOf P ty st x = some (v, st')) (hx : Conc E x u) (hn : st'.next ≤ E.top) :
    ∃ E' w' z, (Instr.range ty u).run P w = .ok z w' ∧ StepW E E' w w' st st' ∧ Conc E' v z := by
  unfold rangeOf at hr
  split at hr
  · rename_i l hu
    cases hr
    cases hx
    rename_i bs
    have hn' : st.next + 1 ≤ E.top := hn
    refine ⟨_, { w with heap := w.heap.push (.stringIter bs 0) }, .pointer (some ⟨w.heap.size, 0, none⟩), ?_, newRow_gives h hn' _ (.si _ 0) (fun _ _ e => by cases e) ?_, ?_⟩
    · simp only [Instr.range, Sem.run_bind, run_under hu, Result.andThen_ok, Sem.run_pure, run_newObj]
    · intro F _
      exact ⟨rfl, bs, by simp, rfl⟩
    · have := Conc.p (E := E.bind st.next ⟨w.heap.size, 0, 0⟩) st.next 0 _ Env.bind_self
      simpa using this
  · rename_i k e hu
    cases hr
    cases hx
    have hn' : st.next + 1 ≤ E.top := hn
    refine ⟨_, { w with heap := w.heap.push (.mapIter none 0 #[] 0) }, .pointer (some ⟨w.heap.size, 0, none⟩), ?_, newRow_gives h hn' _ (.mi none 0 [] 0) (fun _ _ e => by cases e) ?_, ?_⟩
    · simp only [Instr.range, Sem.run_bind, run_under hu, Result.andThen_ok, Sem.run_pure, run_newObj]
    · intro F _
      exact ⟨rfl, none, by simp, rfl⟩
    · have := Conc.p (E := E.bind st.next ⟨w.heap.size, 0, 0⟩) st.next 0 _ Env.bind_self
      simpa using this
  · rename_i k e r hu
    split at hr
    · rename_i es clock hg
      cases hr
      cases hx
      rename_i B hB
      have hn' : st.next + 1 ≤ E.top := hn
      obtain ⟨B', ents, hB', hw, hc, _⟩ := Rel.mp h hg
      rw [hB] at hB'; cases hB'
      refine ⟨_, { w with heap := w.heap.push (.mapIter (some B.b) clock #[] clock) }, .pointer (some ⟨w.heap.size, 0, none⟩), ?_, newRow_gives h hn' _ (.mi (some r) clock [] clock) (fun _ _ e => by cases e) ?_, ?_⟩
      · simp only [Instr.range, Sem.run_bind, run_under hu, Result.andThen_ok, getObj_run hw (fun _ _ _ e => by cases e), Sem.run_pure, run_newObj]
      · intro F hF
        exact ⟨rfl, some B.b, by simp, B, hF.phi _ _ hB, rfl⟩
      · have := Conc.p (E := E.bind st.next ⟨w.heap.size, 0, 0⟩) st.next 0 _ Env.bind_self
        simpa using this
    · cases hr
  · cases hr

theorem filter_left {seen : List Nat} : ∀ {es : List (AV × AV × Nat)} {ms : List MapEntry}, ConcE E es ms → ConcE E (left seen es) (ms.filter fun e => !seen.contains e.born)
  | [], [], _ => trivial
  | e :: es, m :: ms, ⟨h, t⟩ => by
    have hm : mem e.2.2 seen = seen.contains m.born := by
      rw [h.2.2, Bool.eq_iff_iff, mem_iff]; simp
    have ih := filter_left (seen := seen) t
    unfold left at ih ⊢
    simp only [List.filter_cons, hm]
    split
    · exact ⟨h, ih⟩
    · exact ih

theorem all_born {last : Nat} : ∀ {es : List (AV × AV × Nat)} {ms : List MapEntry}, ConcE E es ms → (es.all fun e => Nat.ble last e.2.2) = ms.all fun e => decide (e.born ≥ last)
  | [], [], _ => rfl
  | e :: es, m :: ms, ⟨h, t⟩ => by
    simp only [List.all_cons, all_born t, h.2.2]
    congr 1
    rw [Bool.eq_iff_iff]; simp [Nat.ble_eq]

theorem empty_eq : ∀ {es : List (AV × AV × Nat)} {ms : List MapEntry}, ConcE E es ms → es.isEmpty = ms.isEmpty
  | [], [], _ => rfl
  | _ :: _, _ :: _, _ => rfl

theorem drop_cons_get {α : Type} : ∀ {l : List α} {n : Nat} {c : α} {t : List α}, l.drop n = c :: t → l[n]? = some c
  | [], n, c, t, h => by simp at h
  | x :: l, 0, c, t, h => by simp at h; simp [h.1]
  | x :: l, n + 1, c, t, h => by simpa using drop_cons_get (l := l) (n := n) (by simpa using h)

theorem bytes_at {s : ByteArray} {n c : Nat} (h : (s.data.toList.map UInt8.toNat)[n]? = some c) : n < s.size ∧ (s.get! n).toNat = c := by
  rw [List.getElem?_map] at h
  cases hx : s.data.toList[n]? with
  | none => rw [hx] at h; cases h
  | some b =>
    rw [hx] at h
    simp only [Option.map_some, Option.some.injEq] at h
    rw [Array.getElem?_toList] at hx
    have hlt : n < s.data.size := by
      rcases Nat.lt_or_ge n s.data.size with hh | hh
      · exact hh
      · rw [Array.getElem?_eq_none hh] at hx; cases hx
    refine ⟨hlt, ?_⟩
    have : s.get! n = s.data[n]! := rfl
    rw [this, getElem!_pos s.data n hlt]
    rw [Array.getElem?_eq_getElem hlt] at hx
    cases hx; exact h

theorem decode_ascii {s : ByteArray} {n c : Nat} (h : (s.get! n).toNat = c) (hc : c < 128) : Utf8.decode s n = (c, 1) := by
  unfold Utf8.decode
  simp only [Nat.add_zero, h]
  rw [if_pos hc]

theorem choose_one {q : Question} (h : q.forced = true) : (choose q).run P w = .ok 0 w := by
  rw [run_choose, if_pos h]

theorem nextOf_spec (h : Rel E w.heap st) {isS : Bool} {x v : AV} {u : Value} {st' : St} (hr : nextOf st isS x = some (v, st')) (hx : Conc E x u) (ty : TypeId) :
    ∃ w' z, (Instr.next u isS ty).run P w = .ok z w' ∧ StepW E E w w' st st' ∧ Conc E v z := by
  unfold nextOf at hr
  split at hr
  · rename_i r
    cases hx
    rename_i B hB
    split at hr
    · rename_i l n hg
      obtain ⟨B', hB', hR, ha⟩ := Rel.row h hg (fun _ _ e => by cases e)
      rw [hB] at hB'; cases hB'
      obtain ⟨hd, bs, hw, rfl⟩ := hR
      have he : (Instr.next (.pointer (some ⟨B.b, 0 + B.d, none⟩)) true ty).run P w = (Instr.next (.pointer (some ⟨B.b, 0, none⟩)) true ty).run P w := by rw [hd]
      rw [he]
      split at hr
      · rename_i hnil
        cases hr
        have hle : ¬ n < bs.size := by
          rw [List.drop_eq_nil_iff] at hnil
          simp at hnil
          have : bs.size = bs.data.size := rfl
          omega
        refine ⟨w, _, ?_, .refl h, .tu _ [.bool false] (.cons _ _ _ _ (.b false) .nil)⟩
        simp only [Instr.next, Sem.run_bind, getObj_run hw (fun _ _ _ e => by cases e), Result.andThen_ok, if_neg hle, Sem.run_pure]
      · rename_i c _ hcons
        obtain ⟨hc, hr⟩ := brec hr
        cases hr
        obtain ⟨h1, h2⟩ := bytes_at (drop_cons_get hcons)
        have hc' : c < 128 := by simpa [Nat.blt_eq] using hc
        refine ⟨{ w with heap := w.heap.setIfInBounds B.b (.stringIter bs (n + 1)) }, .tuple #[.bool true, goInt n, .int .i32 c], ?_, ?_, ?_⟩
        · simp only [Instr.next, Sem.run_bind, getObj_run hw (fun _ _ _ e => by cases e), Result.andThen_ok, if_pos h1, decode_ascii h2 hc', setObj_run hw (fun _ _ _ e => by cases e), Sem.run_pure]
        · exact StepW.of <| Step.putRow h ha hB (fun _ _ e => by cases e) (fun _ _ e => by cases e) _ (fun H' hH => ⟨hd, bs, hH, rfl⟩)
        · exact .tu _ [.bool true, goInt n, .int .i32 c] (.cons _ _ _ _ (.b true) (.cons _ _ _ _ (.i .i64 _) (.cons _ _ _ _ (.i .i32 _) .nil)))
    · rename_i hg
      cases hr
      obtain ⟨B', hB', hR, ha⟩ := Rel.row h hg (fun _ _ e => by cases e)
      rw [hB] at hB'; cases hB'
      obtain ⟨hd, mm, hw, rfl⟩ := hR
      have he : (Instr.next (.pointer (some ⟨B.b, 0 + B.d, none⟩)) false ty).run P w = (Instr.next (.pointer (some ⟨B.b, 0, none⟩)) false ty).run P w := by rw [hd]
      rw [he]
      refine ⟨w, _, ?_, .refl h, .tu _ [.bool false] (.cons _ _ _ _ (.b false) .nil)⟩
      simp only [Instr.next, Sem.run_bind, getObj_run hw (fun _ _ _ e => by cases e), Result.andThen_ok, Sem.run_pure]
    · rename_i m since seen last hg
      split at hr
      · rename_i es clock hgm
        obtain ⟨B', hB', hR, ha⟩ := Rel.row h hg (fun _ _ e => by cases e)
        rw [hB] at hB'; cases hB'
        obtain ⟨hd, mm, hw, Bm, hBm, rfl⟩ := hR
        obtain ⟨Bm', ents, hBm', hwm, hc, _⟩ := Rel.mp h hgm
        rw [hBm] at hBm'; cases hBm'
        have he : (Instr.next (.pointer (some ⟨B.b, 0 + B.d, none⟩)) false ty).run P w = (Instr.next (.pointer (some ⟨B.b, 0, none⟩)) false ty).run P w := by rw [hd]
        rw [he]
        unfold nextM at hr
        have hguard : (!seen.toArray.isEmpty && !ents.isEmpty && ents.all fun e => decide (e.born ≥ last)) = (!seen.isEmpty && !es.isEmpty && es.all fun e => Nat.ble last e.2.2) := by
          rw [all_born hc, empty_eq hc]
          simp
        cases hgd : (!seen.isEmpty && !es.isEmpty && es.all fun e => Nat.ble last e.2.2) with
        | true => rw [hgd] at hr; cases hr
        | false =>
          rw [hgd] at hr hguard
          have hfl := filter_left (seen := seen) hc
          have hfa : (ents.filter fun e => !seen.toArray.contains e.born).toList = ents.toList.filter fun e => !seen.contains e.born := by simp
          dsimp only at hr
          split at hr
          · rename_i hl
            cases hr
            rw [hl] at hfl
            have hz : ents.toList.filter (fun e => !seen.contains e.born) = [] := by
              cases hf : ents.toList.filter (fun e => !seen.contains e.born) with
              | nil => rfl
              | cons a b => rw [hf] at hfl; exact absurd hfl (by simp [ConcE])
            have hze : (ents.filter fun e => !seen.toArray.contains e.born) = #[] := Array.toList_inj.1 (by rw [hfa, hz])
            refine ⟨w, _, ?_, .refl h, .tu _ [.bool false] (.cons _ _ _ _ (.b false) .nil)⟩
            unfold Instr.next
            simp only [Sem.run_bind, getObj_run hw (fun _ _ _ e => by cases e), getObj_run hwm (fun _ _ _ e => by cases e), Result.andThen_ok, hguard, Bool.false_eq_true, if_false, hze]
            rw [show ((if ((#[] : Array MapEntry).filter fun x => decide (x.born < since)).isEmpty = true then #[none] else #[]) ++ ((#[] : Array MapEntry).filter (fun x => decide (x.born < since)) ++ (#[] : Array MapEntry).filter (fun x => decide (x.born ≥ since))).map some) = #[(none : Option MapEntry)] by simp]
            rw [choose_one (by rfl)]
            rfl
          · rename_i k v0 b hl
            obtain ⟨hb, hr⟩ := brec hr
            cases hr
            rw [hl] at hfl
            obtain ⟨me, hz, hk, hv, hbo⟩ : ∃ me, ents.toList.filter (fun e => !seen.contains e.born) = [me] ∧ Conc E k me.key ∧ Conc E v0 me.val ∧ me.born = b := by
              cases hf : ents.toList.filter (fun e => !seen.contains e.born) with
              | nil => rw [hf] at hfl; exact absurd hfl (by simp [ConcE])
              | cons a t =>
                rw [hf] at hfl
                cases t with
                | nil => exact ⟨a, rfl, hfl.1.1, hfl.1.2.1, hfl.1.2.2⟩
                | cons _ _ => exact absurd hfl.2 (by simp [ConcE])
            have hze : (ents.filter fun e => !seen.toArray.contains e.born) = #[me] := Array.toList_inj.1 (by rw [hfa, hz])
            have hlt : me.born < since := by rw [hbo]; simpa [Nat.blt_eq] using hb
            refine ⟨{ w with heap := w.heap.setIfInBounds B.b (.mapIter (some Bm.b) since (seen.toArray.push me.born) clock) }, .tuple #[.bool true, me.key, me.val], ?_, ?_, ?_⟩
            · unfold Instr.next
              simp only [Sem.run_bind, getObj_run hw (fun _ _ _ e => by cases e), getObj_run hwm (fun _ _ _ e => by cases e), Result.andThen_ok, hguard, Bool.false_eq_true, if_false, hze]
              rw [show ((if ((#[me] : Array MapEntry).filter fun x => decide (x.born < since)).isEmpty = true then #[none] else #[]) ++ ((#[me] : Array MapEntry).filter (fun x => decide (x.born < since)) ++ (#[me] : Array MapEntry).filter (fun x => decide (x.born ≥ since))).map some) = #[some me] by
                have : ¬ since ≤ me.born := by omega
                simp [hlt, this]]
              rw [choose_one (by rfl)]
              show (Sem.run P (setObj B.b _ >>= fun _ => _) w) = _
              rw [Sem.run_bind, setObj_run hw (fun _ _ _ e => by cases e)]
              rfl
            · exact StepW.of <| Step.putRow h ha hB (fun _ _ e => by cases e) (fun _ _ e => by cases e) _ (fun H' hH => ⟨hd, some Bm.b, by rw [hH]; simp [hbo], Bm, hBm, rfl⟩)
            · exact .tu _ [.bool true, me.key, me.val] (.cons _ _ _ _ (.b true) (.cons _ _ _ _ hk (.cons _ _ _ _ hv .nil)))
          · cases hr
      · cases hr
    · cases hr
  · cases hr

theorem lastN_eq : ∀ l : List Nat, lastN l = l.getLast?
  | [] => rfl
  | [_] => rfl
  | _ :: y :: l => by rw [List.getLast?_cons_cons]; exact lastN_eq (y :: l)

theorem findB_spec {b : Nat} {v : AV} {st' : St} : ∀ {es : List (AV × AV × Nat)} {ms : List MapEntry}, ConcE E es ms → findB b st es = some (v, st') → st' = st ∧ ∃ m, ms.find? (fun e => e.born == b) = some m ∧ Conc E v (.tuple #[m.key, m.val])
  | [], _, _, h => by cases h
  | (k, x, n) :: es, [], hc, _ => hc.elim
  | (k, x, n) :: es, m :: ms, ⟨hm, ht⟩, h => by
    have hborn : m.born = n := hm.2.2
    unfold findB at h
    cases hb : Nat.beq n b with
    | true =>
      rw [hb] at h
      cases h
      have : (m.born == b) = true := by rw [hborn]; simpa using hb
      exact ⟨rfl, m, by simp [this], .tu _ [m.key, m.val] (.cons _ _ _ _ hm.1 (.cons _ _ _ _ hm.2.1 .nil))⟩
    | false =>
      rw [hb] at h
      have : (m.born == b) = false := by
        rw [hborn, beq_eq_false_iff_ne]
        rintro rfl
        rw [nbeq] at hb; simp at hb
      obtain ⟨h1, m', h2, h3⟩ := findB_spec ht h
      exact ⟨h1, m', by rw [List.find?_cons_of_neg (by simp [this])]; exact h2, h3⟩

theorem entryOf_spec (h : Rel E w.heap st) {x v : AV} {u : Value} {st' : St} (hr : entryOf st x = some (v, st')) (hx : Conc E x u) :
    st' = st ∧ ∃ z, (Instr.entry u).run P w = .ok z w ∧ Conc E v z := by
  unfold entryOf at hr
  split at hr
  · rename_i r
    cases hx
    rename_i B hB
    split at hr
    · rename_i m since seen last hg
      split at hr
      · rename_i es clock hgm
        obtain ⟨B', hB', hR, ha⟩ := Rel.row h hg (fun _ _ e => by cases e)
        rw [hB] at hB'; cases hB'
        obtain ⟨hd, mm, hw, Bm, hBm, rfl⟩ := hR
        obtain ⟨Bm', ents, hBm', hwm, hc, _⟩ := Rel.mp h hgm
        rw [hBm] at hBm'; cases hBm'
        have he : (Instr.entry (.pointer (some ⟨B.b, 0 + B.d, none⟩))).run P w = (Instr.entry (.pointer (some ⟨B.b, 0, none⟩))).run P w := by rw [hd]
        unfold entryM at hr
        split at hr
        · rename_i b hb
          obtain ⟨hcl, hr'⟩ := brec hr
          clear hr
          rw [nbeq, decide_eq_true_eq] at hcl
          subst hcl
          obtain ⟨h1, me, h2, h3⟩ := findB_spec hc hr'
          refine ⟨h1, _, ?_, h3⟩
          rw [he]
          have hbk : seen.toArray.back? = some b := by
            rw [List.back?_toArray, ← lastN_eq]; exact hb
          have hfd : ents.find? (fun e => e.born == b) = some me := by
            rw [← Array.find?_toList]; exact h2
          unfold Instr.entry
          simp only [Sem.run_bind, getObj_run hw (fun _ _ _ e => by cases e), Result.andThen_ok, hbk, getObj_run hwm (fun _ _ _ e => by cases e), bne_self_eq_false, Bool.false_eq_true, if_false, hfd, Sem.run_pure]
        · cases hr
      · cases hr
    · cases hr
  · cases hr
end

end

end Go.Ev
