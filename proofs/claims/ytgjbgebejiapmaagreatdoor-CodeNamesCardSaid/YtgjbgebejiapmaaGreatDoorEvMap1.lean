/- A map that is made and filled in a region that draws its order: what the look at the text settles. -/
import Derived.Test.YtgjbgebejiapmaaGreatDoorEvDraw9
namespace Go.Ev

noncomputable section

section
variable {P : Program} {w : World} {E : Env}

theorem sameNow_of {kd : TypeDesc} {k x : AV} {ku xu : Value} {q : Bool} (hk : Conc E k ku) (hkd : keyDesc kd ku) (hx : Conc E x xu) (he : eqS k x = some q) : Instr.sameNow kd ku xu = some q := by
  rcases eqS_spec he hk hx with ⟨kk, a, c, rfl, hm, rfl⟩ | ⟨a, c, rfl, hm, rfl⟩
  · rw [hm]
    rcases hkd with ⟨k1, k2, n, rfl, hh⟩ | ⟨s, -, hh⟩
    · simp only [Instr.sameNow, if_true]; rfl
    · cases hh
  · rw [hm]
    rcases hkd with ⟨k1, k2, n, rfl, hh⟩ | ⟨s, rfl, hh⟩
    · cases hh
    · simp only [Instr.sameNow]; rw [bytes_beq]

/-- A key that isn't there is put. -/
theorem ins_run {t : TypeId} {k : AV} {uk uv : Value} (hkf : keyFits P t k = true) (hk : Conc E k uk) {μ : Nat} {ents : Array MapEntry} {clock : Nat} (hH : w.heap[μ]? = some (.map ents clock))
    (hno : ∀ m ∈ ents.toList, ∃ x, eqS k x = some false ∧ Conc E x m.key) :
    (Instr.mapUpdate t (.map (some μ)) uk uv).run P w = .ok () { w with heap := w.heap.setIfInBounds μ (.map (ents.push { key := uk, val := uv, born := clock }) (clock + 1)) } := by
  obtain ⟨kt, e, kd, hu, hkd, hkk, hdesc⟩ := keyFits_spec hkf hk
  have hgo := getObj_run (P := P) hH (by intros; exact Obj.noConfusion)
  have hf : ∀ m ∈ ents.toList, Instr.sameNow kd uk m.key = some false := by
    intro m hm
    obtain ⟨x, h1, h2⟩ := hno m hm
    exact sameNow_of hk hdesc h2 h1
  have g1 : Instr.findNow kd uk ents.toList 0 = some none := by
    rcases findNow_of 0 (fun m hm => .inr (hf m hm)) with ⟨h, _⟩ | ⟨j, m, h1, _, h3⟩
    · exact h
    · rw [hf m h1] at h3; cases h3
  simp only [Instr.mapUpdate, Sem.run_bind, run_under hu, Result.andThen_ok, hgo, checkKey_run hkd hkk, Instr.findKey, run_under hkd, g1, Sem.run_pure]
  exact setObj_run hH (by intros; exact Obj.noConfusion)

end

theorem findMk_spec : ∀ {l : List Oper} {k i : Nat} {d : Tmp}, findMk l k = some (i, d) → k ≤ i ∧ ∃ o, l[i - k]? = some o ∧ mkOf o = some d
  | [], k, i, d, h => by cases h
  | o :: l, k, i, d, h => by
    unfold findMk at h
    cases hm : mkOf o with
    | some e => rw [hm] at h; cases h; exact ⟨Nat.le_refl _, o, by simp, hm⟩
    | none =>
      rw [hm] at h
      obtain ⟨h1, o', h2, h3⟩ := findMk_spec h
      refine ⟨by omega, o', ?_, h3⟩
      rw [show i - k = (i - (k + 1)) + 1 by omega]
      simpa using h2

theorem headOk_spec {aops : Array Oper} {d : Tmp} {i0 h : Nat} : ∀ {l : List Oper} {bs : List Nat} {k : Nat}, headOk aops d i0 h l bs k = true → ∀ j o, l[j]? = some o →
    d ∉ (absOp d o).looksAt aops ∧ (∀ g wnt, o.guard = some (g, wnt) → g < h ∧ g ≠ i0) ∧ (∀ q, insOf d o = some q → (numAt bs j).testBit i0 = true) ∧ (insOf d o = none → k + j ≠ i0 → o.dst ≠ some d)
  | [], bs, k, _, j, o, ho => by simp at ho
  | x :: l, [], k, hh, j, o, ho => by cases hh
  | x :: l, b :: bs, k, hh, j, o, ho => by
    unfold headOk at hh
    simp only [Bool.and_eq_true] at hh
    obtain ⟨⟨h1, h2, h3⟩, h4⟩ := hh
    cases j with
    | zero =>
      have : x = o := by simpa using ho
      subst this
      refine ⟨fun hm => ?_, fun g wnt hg => ?_, fun q hq => ?_, fun hn hne hd => ?_⟩
      · rw [List.contains_iff_mem.2 hm] at h1; cases h1
      · unfold guardNot at h2
        rw [hg] at h2
        simp only [Bool.and_eq_true] at h2
        refine ⟨by simpa [Nat.blt_eq] using h2.1, fun e => ?_⟩
        rw [e] at h2
        simp at h2
      · rw [hq] at h3; exact h3
      · rw [hn] at h3
        simp only [Bool.or_eq_true] at h3
        rcases h3 with h3 | h3
        · have : k = i0 := by simpa using h3
          omega
        · rw [hd] at h3; simp at h3
    | succ j =>
      have := headOk_spec h4 j o (by simpa using ho)
      rw [show k + 1 + j = k + (j + 1) by omega] at this
      exact this

theorem allBits_spec {b : Nat} : ∀ {n : Nat}, allBits b n = true → ∀ i, i < n → b.testBit i = true
  | 0, _, i, h => by omega
  | n + 1, hh, i, h => by
    unfold allBits at hh
    simp only [Bool.and_eq_true] at hh
    by_cases e : i = n
    · subst e; exact hh.1
    · exact allBits_spec hh.2 i (by omega)

theorem tailOk_spec : ∀ {bs : List Nat} {k : Nat}, tailOk bs k = true → ∀ j, j < bs.length → ∀ i, i < k + j → (numAt bs j).testBit i = true
  | [], k, _, j, hj, i, hi => by simp at hj
  | b :: bs, k, hh, 0, hj, i, hi => by
    unfold tailOk at hh
    simp only [Bool.and_eq_true] at hh
    exact allBits_spec hh.1 i hi
  | b :: bs, k, hh, j + 1, hj, i, hi => by
    unfold tailOk at hh
    simp only [Bool.and_eq_true] at hh
    have := tailOk_spec hh.2 j (by simpa using hj) i (by omega)
    exact this

/-- A region that makes and fills a map. -/
structure MapReg (ops aops : Array Oper) (bs bsF : List Nat) (i0 : Nat) (d : Tmp) (h : Nat) : Prop where
  set : Settled aops bs
  hn : h ≤ ops.size
  ih : i0 < h
  asz : aops.size = h
  aop : ∀ j o, j < h → ops[j]? = some o → aops[j]? = some (absOp d o)
  mkr : ∃ o, ops[i0]? = some o ∧ mkOf o = some d
  look : ∀ j o, j < h → ops[j]? = some o → d ∉ (absOp d o).looksAt aops
  gd : ∀ j o, j < h → ops[j]? = some o → ∀ g wnt, o.guard = some (g, wnt) → g < h ∧ g ≠ i0
  ins : ∀ j o q, j < h → ops[j]? = some o → insOf d o = some q → (numAt bs j).testBit i0 = true
  dst : ∀ j o, j < h → ops[j]? = some o → insOf d o = none → j ≠ i0 → o.dst ≠ some d
  tail : ∀ j, h ≤ j → j < ops.size → ∀ i, i < j → (numAt bsF j).testBit i = true
  edgeF : ∀ j o, ops[j]? = some o → ∀ e ∈ o.after, Region.binds .any e = true → e.on < j
  befF : ∀ j o i, ops[j]? = some o → (numAt bsF j).testBit i = true → ∃ e ∈ o.after, Region.binds .any e = true ∧ (i = e.on ∨ (numAt bsF e.on).testBit i = true)

theorem planM_spec {ops : Array Oper} {m : PlanM} (hm : planM ops = some m) :
    ∃ bs bsF, MapReg ops m.aops bs bsF m.i0 m.d m.h ∧ m.fl = floatsOf (m.aops.toList.map fun o => kind o.op) bs (0 :: starts (m.aops.toList.map fun o => kind o.op) 0) (m.aops.toList.map fun o => kind o.op) 0 := by
  unfold planM at hm
  split at hm
  case h_2 => cases hm
  rename_i i0 d hf
  generalize lastIns d ops.toList 0 (i0 + 1) = h at hm
  unfold planM2 at hm
  generalize hao : ((ops.toList.take h).map (absOp d)).toArray = aops at hm
  cases hb : befs aops.toList [] with
  | none => rw [hb] at hm; cases hm
  | some bs =>
    rw [hb] at hm
    cases hbF : befs ops.toList [] with
    | none => rw [hbF] at hm; cases hm
    | some bsF =>
      rw [hbF] at hm
      simp only at hm
      cases hc : ((Nat.blt i0 h && Nat.ble h ops.size) && (drawOkF aops bs [] aops.toList bs && (headOk aops d i0 h (ops.toList.take h) bs 0 && tailOk (bsF.drop h) h))) with
      | false => rw [hc] at hm; cases hm
      | true =>
        rw [hc] at hm
        cases hm
        simp only [Bool.and_eq_true] at hc
        obtain ⟨⟨c1, c2⟩, c3, c4, c5⟩ := hc
        have hih : i0 < h := by simpa [Nat.blt_eq] using c1
        have hhn : h ≤ ops.size := by simpa [Nat.ble_eq] using c2
        obtain ⟨f1, o0, f2, f3⟩ := findMk_spec hf
        obtain ⟨b1, b2, b3⟩ := befs_spec hbF
        have hl : ∀ (j : Nat) (o : Oper), ops[j]? = some o → ops.toList[j]? = some o := fun j o h => by rw [Array.getElem?_toList]; exact h
        have htk : ∀ (j : Nat) (o : Oper), j < h → ops[j]? = some o → (ops.toList.take h)[j]? = some o := fun j o hj ho => by
          rw [List.getElem?_take_of_lt hj]; exact hl j o ho
        refine ⟨bs, bsF, ⟨settled hb c3, hhn, hih, ?_, ?_, ⟨o0, by simpa using f2, f3⟩, ?_, ?_, ?_, ?_, ?_, ?_, ?_⟩, rfl⟩
        · rw [← hao]; simp [Nat.min_eq_left hhn]
        · intro j o hj ho
          rw [← hao, List.getElem?_toArray, List.getElem?_map, htk j o hj ho]; rfl
        · intro j o hj ho; exact (headOk_spec c4 j o (htk j o hj ho)).1
        · intro j o hj ho; exact (headOk_spec c4 j o (htk j o hj ho)).2.1
        · intro j o q hj ho; exact (headOk_spec c4 j o (htk j o hj ho)).2.2.1 q
        · intro j o hj ho hn hne; exact (headOk_spec c4 j o (htk j o hj ho)).2.2.2 hn (by simpa using hne)
        · intro j hj hjn i hi
          replace hj : h ≤ j := hj
          have hlen : bsF.length = ops.size := by simpa using b1
          have := tailOk_spec c5 (j - h) (by simp; omega) i (by omega)
          unfold numAt at this ⊢
          rw [List.getElem?_drop, show h + (j - h) = j by omega] at this
          exact this
        · intro j o ho e he hbd; simpa using (b3 j o (hl j o ho)).1 e he hbd
        · intro j o i ho hi; exact (b3 j o (hl j o ho)).2 i (by simpa using hi)

/-! The entries, as the text has them. -/
def KV (R : List Rec) (i : Nat) : AV × AV := match kvOf (recAt R i).v with | some p => p | none => (.un, .un)

def IsIns (ops : Array Oper) (d : Tmp) (h i : Nat) : Prop := i < h ∧ ∃ o q, ops[i]? = some o ∧ insOf d o = some q

theorem freshK_spec {k : AV} : ∀ {es : List (AV × AV)}, freshK k es = true → ∀ p ∈ es, eqS k p.1 = some false ∧ eqS p.1 k = some false
  | [], _, p, hp => by cases hp
  | (x, v) :: es, h, p, hp => by
    unfold freshK at h
    simp only [Bool.and_eq_true] at h
    have f : ∀ {o : Option Bool}, isFalse o = true → o = some false := by
      intro o ho
      cases o with
      | none => cases ho
      | some b => cases b; rfl; cases ho
    rcases List.mem_cons.1 hp with rfl | hp
    · exact ⟨f h.1.1, f h.1.2⟩
    · exact freshK_spec h.2 p hp

theorem kvs_spec {P : Program} {d : Tmp} {R0 : List Rec} : ∀ {l : List Oper} {R : List Rec} {k : Nat} {es : List (AV × AV)}, (∀ i, R[i]? = R0[k + i]?) → kvs P d l R = some es →
    ∃ js : List Nat, es = js.map (KV R0) ∧ js.Nodup ∧ (∀ i, i ∈ js ↔ k ≤ i ∧ ∃ o q, l[i - k]? = some o ∧ insOf d o = some q) ∧ (∀ i ∈ js, kvOf (recAt R0 i).v = some (KV R0 i)) ∧
      (∀ i ∈ js, ∀ o q, l[i - k]? = some o → insOf d o = some q → keyFits P q.1 (KV R0 i).1 = true) ∧ ∀ i ∈ js, ∀ i' ∈ js, i ≠ i' → eqS (KV R0 i).1 (KV R0 i').1 = some false
  | [], R, k, es, _, h => by
    cases h
    exact ⟨[], rfl, List.nodup_nil, fun i => (by simp), fun i hi => (by cases hi), fun i hi => (by cases hi), fun i hi => (by cases hi)⟩
  | o :: l, [], k, es, _, h => by
    cases h
  | o :: l, r :: R, k, es, hR, h => by
    have hR' : ∀ i, R[i]? = R0[k + 1 + i]? := fun i => by
      have := hR (i + 1)
      rw [show k + (i + 1) = k + 1 + i by omega] at this
      simpa using this
    have hr : recAt R0 k = r := by
      have := hR 0
      simp only [List.getElem?_cons_zero, Nat.add_zero] at this
      unfold recAt
      rw [← this]
    have shift : ∀ (i : Nat) (P' : Oper → Prop), k + 1 ≤ i → ((∃ o', l[i - (k + 1)]? = some o' ∧ P' o') ↔ ∃ o', (o :: l)[i - k]? = some o' ∧ P' o') := by
      intro i P' hi
      rw [show i - k = (i - (k + 1)) + 1 by omega]
      simp
    unfold kvs at h
    cases hi : insOf d o with
    | none =>
      rw [hi] at h
      obtain ⟨js, g1, g2, g3, g4, g5, g6⟩ := kvs_spec hR' h
      refine ⟨js, g1, g2, fun i => ?_, g4, fun i hij o' q ho' hq => ?_, g6⟩
      · rw [g3]
        constructor
        · rintro ⟨h1, o', q, h2, h3⟩
          refine ⟨by omega, ?_⟩
          obtain ⟨o'', h4, h5⟩ := (shift i (fun o' => ∃ q, insOf d o' = some q) h1).1 ⟨o', h2, q, h3⟩
          obtain ⟨q', h5⟩ := h5
          exact ⟨o'', q', h4, h5⟩
        · rintro ⟨h1, o', q, h2, h3⟩
          have hne : i ≠ k := by
            rintro rfl
            simp at h2
            subst h2
            rw [hi] at h3; cases h3
          refine ⟨by omega, ?_⟩
          obtain ⟨o'', h4, q', h5⟩ := (shift i (fun o' => ∃ q, insOf d o' = some q) (by omega)).2 ⟨o', h2, q, h3⟩
          exact ⟨o'', q', h4, h5⟩
      · have h1 := ((g3 i).1 hij).1
        rw [show i - k = (i - (k + 1)) + 1 by omega] at ho'
        exact g5 i hij o' q (by simpa using ho') hq
    | some q0 =>
      obtain ⟨ty, kk, xx⟩ := q0
      rw [hi] at h
      cases hk : kvs P d l R with
      | none => rw [hk] at h; cases h
      | some es' =>
        rw [hk] at h
        simp only at h
        cases hv : kvOf r.v with
        | none => rw [hv] at h; cases h
        | some kv =>
          rw [hv] at h
          simp only at h
          cases hc : (keyFits P ty kv.1 && freshK kv.1 es') with
          | false => rw [hc] at h; cases h
          | true =>
            rw [hc] at h
            cases h
            simp only [Bool.and_eq_true] at hc
            obtain ⟨js, g1, g2, g3, g4, g5, g6⟩ := kvs_spec hR' hk
            have hKV : KV R0 k = kv := by unfold KV; rw [hr, hv]
            have hnk : k ∉ js := fun hm => by have := ((g3 k).1 hm).1; omega
            have hfr := freshK_spec hc.2
            refine ⟨k :: js, by rw [List.map_cons, hKV, g1], List.nodup_cons.2 ⟨hnk, g2⟩, fun i => ?_, fun i hij => ?_, fun i hij o' q ho' hq => ?_, fun i hij i' hij' hne => ?_⟩
            · rw [List.mem_cons, g3]
              constructor
              · rintro (rfl | ⟨h1, o', q, h2, h3⟩)
                · exact ⟨Nat.le_refl _, o, (ty, kk, xx), by simp, hi⟩
                · refine ⟨by omega, ?_⟩
                  obtain ⟨o'', h4, q', h5⟩ := (shift i (fun o' => ∃ q, insOf d o' = some q) h1).1 ⟨o', h2, q, h3⟩
                  exact ⟨o'', q', h4, h5⟩
              · rintro ⟨h1, o', q, h2, h3⟩
                by_cases e : i = k
                · exact .inl e
                · right
                  refine ⟨by omega, ?_⟩
                  obtain ⟨o'', h4, q', h5⟩ := (shift i (fun o' => ∃ q, insOf d o' = some q) (by omega)).2 ⟨o', h2, q, h3⟩
                  exact ⟨o'', q', h4, h5⟩
            · rcases List.mem_cons.1 hij with rfl | hij
              · rw [hKV, hr]; exact hv
              · exact g4 i hij
            · rcases List.mem_cons.1 hij with rfl | hij
              · simp at ho'
                subst ho'
                rw [hi] at hq; cases hq
                rw [hKV]; exact hc.1
              · have h1 := ((g3 i).1 hij).1
                rw [show i - k = (i - (k + 1)) + 1 by omega] at ho'
                exact g5 i hij o' q (by simpa using ho') hq
            · rcases List.mem_cons.1 hij with e1 | m1 <;> rcases List.mem_cons.1 hij' with e2 | m2
              · exact absurd (e1.trans e2.symm) hne
              · rw [e1, hKV]
                exact (hfr _ (by rw [g1]; exact List.mem_map.2 ⟨i', m2, rfl⟩)).1
              · rw [e2, hKV]
                exact (hfr _ (by rw [g1]; exact List.mem_map.2 ⟨i, m1, rfl⟩)).2
              · exact g6 i m1 i' m2 hne

end

end Go.Ev
