/- Regions that draw their order: what the look at the text settles; what is kept of the run in the text's order. -/
import Derived.Test.YtgjbgebejiapmaaGreatDoorEvOp
namespace Go.Ev

noncomputable section

theorem put_defers (a : Act) (d : Option Tmp) (v : Value) : (a.put d v).defers = a.defers := by cases d <;> rfl

theorem ahead_spec {acc : List Nat} : ∀ {l : List Edge} {m : Nat}, ahead acc l = some m →
    (∀ e ∈ l, Region.binds .any e = true → e.on < acc.length) ∧ ∀ i, m.testBit i = true → ∃ e ∈ l, Region.binds .any e = true ∧ (i = e.on ∨ (numAt acc e.on).testBit i = true)
  | [], m, h => by cases h; exact ⟨fun e h => by (cases h), fun i h => by simp at h⟩
  | e :: l, m, h => by
    unfold ahead at h
    cases ha : ahead acc l with
    | none => rw [ha] at h; cases h
    | some m' =>
      rw [ha] at h
      simp only at h
      obtain ⟨h1, h2⟩ := ahead_spec ha
      cases hb : Region.binds .any e with
      | false =>
        rw [hb] at h
        cases h
        refine ⟨fun x hx hbx => ?_, fun i hi => ?_⟩
        · rcases List.mem_cons.1 hx with rfl | hx
          · rw [hb] at hbx; cases hbx
          · exact h1 x hx hbx
        · obtain ⟨x, hx, k1, k2⟩ := h2 i hi
          exact ⟨x, List.mem_cons_of_mem _ hx, k1, k2⟩
      | true =>
        rw [hb] at h
        simp only [cond_true] at h
        cases hk : acc[e.on]? with
        | none => rw [hk] at h; cases h
        | some k =>
          rw [hk] at h
          cases h
          have hlt : e.on < acc.length := (List.getElem?_eq_some_iff.1 hk).1
          refine ⟨fun x hx hbx => ?_, fun i hi => ?_⟩
          · rcases List.mem_cons.1 hx with rfl | hx
            · exact hlt
            · exact h1 x hx hbx
          · have hi' : (m' ||| (2 ^ e.on ||| k)).testBit i = true := hi
            rw [Nat.testBit_or, Nat.testBit_or, Bool.or_eq_true, Bool.or_eq_true] at hi'
            rcases hi' with hi' | hi' | hi'
            · obtain ⟨x, hx, k1, k2⟩ := h2 i hi'
              exact ⟨x, List.mem_cons_of_mem _ hx, k1, k2⟩
            · rw [Nat.testBit_two_pow] at hi'
              exact ⟨e, List.mem_cons_self .., hb, .inl (by simpa using (of_decide_eq_true hi').symm)⟩
            · exact ⟨e, List.mem_cons_self .., hb, .inr (by simpa [numAt, hk] using hi')⟩

theorem befs_spec : ∀ {l : List Oper} {acc bs : List Nat}, befs l acc = some bs → bs.length = acc.length + l.length ∧ (∀ i, i < acc.length → bs[i]? = acc[i]?) ∧
    ∀ j o, l[j]? = some o → (∀ e ∈ o.after, Region.binds .any e = true → e.on < acc.length + j) ∧
      ∀ i, (numAt bs (acc.length + j)).testBit i = true → ∃ e ∈ o.after, Region.binds .any e = true ∧ (i = e.on ∨ (numAt bs e.on).testBit i = true)
  | [], acc, bs, h => by cases h; exact ⟨by simp, fun _ _ => rfl, fun j o h => by simp at h⟩
  | o :: l, acc, bs, h => by
    unfold befs at h
    cases ha : ahead acc o.after.toList with
    | none => rw [ha] at h; cases h
    | some m =>
      rw [ha] at h
      simp only at h
      obtain ⟨h1, h2, h3⟩ := befs_spec h
      obtain ⟨k1, k2⟩ := ahead_spec ha
      have hpre : ∀ i, i < acc.length → bs[i]? = acc[i]? := fun i hi => by
        rw [h2 i (by simp; omega), List.getElem?_append_left hi]
      refine ⟨by rw [h1]; simp; omega, hpre, fun j x hx => ?_⟩
      cases j with
      | zero =>
        have : o = x := by simpa using hx
        subst this
        refine ⟨fun e he hb => k1 e (by simpa using he) hb, fun i hi => ?_⟩
        have hm : bs[acc.length]? = some m := by rw [h2 _ (by simp)]; simp
        rw [Nat.add_zero] at hi
        unfold numAt at hi
        rw [hm] at hi
        obtain ⟨e, he, hb, hh⟩ := k2 i hi
        refine ⟨e, by simpa using he, hb, hh.imp id fun hh => ?_⟩
        have := k1 e he hb
        unfold numAt at hh ⊢
        rw [hpre _ this]; exact hh
      | succ j =>
        have hx' : l[j]? = some x := by simpa using hx
        have := h3 j x hx'
        have e : (acc ++ [m]).length + j = acc.length + (j + 1) := by simp; omega
        rw [e] at this
        exact this

theorem pairsOk_spec {ops : Array Oper} {bs : List Nat} {y : Oper} {bj : Nat} : ∀ {l : List Oper} {k : Nat}, pairsOk ops bs y bj l k = true → ∀ i x, l[i]? = some x →
    pairOk ops x y (bj.testBit (k + i)) = true ∧ earlyOk ops bs x y (k + i) (bj.testBit (k + i)) = true
  | [], k, h, i, x, hx => by simp at hx
  | z :: l, k, h, i, x, hx => by
    unfold pairsOk at h
    simp only [Bool.and_eq_true] at h
    cases i with
    | zero =>
      have : z = x := by simpa using hx
      subst this
      simpa using h.1
    | succ i =>
      have := pairsOk_spec h.2 i x (by simpa using hx)
      have e : k + 1 + i = k + (i + 1) := by omega
      rw [e] at this
      exact this

theorem drawOkF_spec {ops : Array Oper} {all : List Nat} : ∀ {l done : List Oper} {bs : List Nat}, drawOkF ops all done l bs = true → ∀ j y b, l[j]? = some y → bs[j]? = some b → isSel y.op = false ∧ pairsOk ops all y b (done ++ l.take j) 0 = true
  | [], done, bs, h, j, y, b, hy, hb => by simp at hy
  | z :: l, done, [], h, j, y, b, hy, hb => by simp at hb
  | z :: l, done, c :: bs, h, j, y, b, hy, hb => by
    unfold drawOkF at h
    simp only [Bool.and_eq_true] at h
    cases j with
    | zero =>
      have e1 : z = y := by simpa using hy
      have e2 : c = b := by simpa using hb
      subst e1; subst e2
      simpa using h.1
    | succ j =>
      have := drawOkF_spec h.2 j y b (by simpa using hy) (by simpa using hb)
      simpa using this

theorem readersOk_spec {ops : Array Oper} {y : Oper} {i : Nat} : ∀ {l : List Oper} {bs : List Nat}, readersOk ops y i l bs = true → ∀ (h : Nat) (o : Oper) (b : Nat), l[h]? = some o → bs[h]? = some b → ∀ d, y.dst = some d → d ∈ o.looksAt ops → b.testBit i = true
  | [], bs, _, h, o, b, ho, hb => by simp at ho
  | z :: l, [], _, h, o, b, ho, hb => by simp at hb
  | z :: l, c :: bs, hr, h, o, b, ho, hb => by
    intro d hd hmem
    unfold readersOk at hr
    simp only [Bool.and_eq_true] at hr
    cases h with
    | zero =>
      have e1 : z = o := by simpa using ho
      have e2 : c = b := by simpa using hb
      subst e1; subst e2
      have := hr.1
      rw [hd] at this
      simp only [List.contains_iff_mem.2 hmem, cond_true] at this
      exact this
    | succ h => exact readersOk_spec hr.2 h o b (by simpa using ho) (by simpa using hb) d hd hmem

/-- The order of a region's operations is settled, where it must be. -/
structure Settled (ops : Array Oper) (bs : List Nat) : Prop where
  nosel : ∀ (j : Nat) (o : Oper), ops[j]? = some o → isSel o.op = false
  edge : ∀ j o, ops[j]? = some o → ∀ e ∈ o.after, Region.binds .any e = true → e.on < j
  bef : ∀ j o i, ops[j]? = some o → (numAt bs j).testBit i = true → ∃ e ∈ o.after, Region.binds .any e = true ∧ (i = e.on ∨ (numAt bs e.on).testBit i = true)
  pair : ∀ i j x y, i < j → ops[i]? = some x → ops[j]? = some y → pairOk ops x y ((numAt bs j).testBit i) = true
  early : ∀ i j x y, i < j → ops[i]? = some x → ops[j]? = some y → kind x.op = 3 → kind y.op = 2 → (numAt bs j).testBit i = false → ∀ h o, ops[h]? = some o → ∀ d, y.dst = some d → d ∈ o.looksAt ops → (numAt bs h).testBit i = true

theorem settled {ops : Array Oper} {bs : List Nat} (hb : befs ops.toList [] = some bs) (hd : drawOkF ops bs [] ops.toList bs = true) : Settled ops bs := by
  obtain ⟨h1, h2, h3⟩ := befs_spec hb
  have hlen : bs.length = ops.size := by simpa using h1
  have hl : ∀ (j : Nat) (o : Oper), ops[j]? = some o → ops.toList[j]? = some o := fun j o h => by rw [Array.getElem?_toList]; exact h
  have hbs : ∀ (j : Nat) (o : Oper), ops[j]? = some o → bs[j]? = some (numAt bs j) := fun j o h => by
    have : j < bs.length := by rw [hlen]; exact (Array.getElem?_eq_some_iff.1 h).1
    simp [numAt, List.getElem?_eq_getElem this]
  have hp : ∀ (i j : Nat) (x y : Oper), i < j → ops[i]? = some x → ops[j]? = some y → pairOk ops x y ((numAt bs j).testBit i) = true ∧ earlyOk ops bs x y i ((numAt bs j).testBit i) = true := by
    intro i j x y hij hx hy
    have := (drawOkF_spec hd j y _ (hl j y hy) (hbs j y hy)).2
    have := pairsOk_spec this i x (by rw [List.nil_append, List.getElem?_take_of_lt hij]; exact hl i x hx)
    simpa using this
  refine ⟨fun j o ho => (drawOkF_spec hd j o _ (hl j o ho) (hbs j o ho)).1, fun j o ho e he hb => by simpa using (h3 j o (hl j o ho)).1 e he hb, fun j o i ho hi => (h3 j o (hl j o ho)).2 i (by simpa using hi), fun i j x y hij hx hy => (hp i j x y hij hx hy).1, ?_⟩
  intro i j x y hij hx hy kx ky hno h o ho d hd hmem
  have := (hp i j x y hij hx hy).2
  unfold earlyOk at this
  rw [kx, ky, hno] at this
  have : readersOk ops y i ops.toList bs = true := this
  exact readersOk_spec this h o _ (hl h o ho) (hbs h o ho) d hd hmem

/-! The looks that are taken again. -/
theorem anyK_of {b p : Nat} : ∀ {l : List Nat} {k : Nat} {i : Nat}, l[i]? = some 3 → p ≤ k + i → b.testBit (k + i) = true → anyK b p l k = true
  | [], k, i, h, _, _ => by simp at h
  | x :: l, k, 0, h, hp, hb => by
    have : x = 3 := by simpa using h
    subst this
    unfold anyK
    have h1 : Nat.ble p k = true := by simpa [Nat.ble_eq] using hp
    have h2 : b.testBit k = true := by simpa using hb
    simp [h1, h2]
  | x :: l, k, i + 1, h, hp, hb => by
    unfold anyK
    have : anyK b p l (k + 1) = true := anyK_of (i := i) (by simpa using h) (by omega) (by rw [show k + 1 + i = k + (i + 1) by omega]; exact hb)
    rw [this]; simp

theorem anyK_spec {b p : Nat} : ∀ {l : List Nat} {k : Nat}, anyK b p l k = true → ∃ i, l[i]? = some 3 ∧ p ≤ k + i ∧ b.testBit (k + i) = true
  | [], k, h => by simp [anyK] at h
  | x :: l, k, h => by
    unfold anyK at h
    simp only [Bool.or_eq_true, Bool.and_eq_true] at h
    rcases h with ⟨h1, h2, h3⟩ | h
    · refine ⟨0, ?_, by simpa [Nat.ble_eq] using h1, by simpa using h3⟩
      have : x = 3 := by simpa using h2
      simp [this]
    · obtain ⟨i, k1, k2, k3⟩ := anyK_spec h
      exact ⟨i + 1, by simpa using k1, by omega, by rw [show k + (i + 1) = k + 1 + i by omega]; exact k3⟩

theorem calm_spec {p j : Nat} : ∀ {l : List Nat} {k : Nat}, calm p j l k = true → ∀ i x, l[i]? = some x → p ≤ k + i → k + i < j → x < 2
  | [], k, h, i, x, hx, _, _ => by simp at hx
  | y :: l, k, h, i, x, hx, hp, hj => by
    unfold calm at h
    simp only [Bool.or_eq_true, Bool.and_eq_true] at h
    cases i with
    | zero =>
      have : y = x := by simpa using hx
      subst this
      rcases h.1 with h | h | h
      · have : k < p := by simpa [Nat.blt_eq] using h
        omega
      · have : j ≤ k := by simpa [Nat.ble_eq] using h
        omega
      · simpa [Nat.blt_eq] using h
    | succ i => exact calm_spec h.2 i x (by simpa using hx) (by omega) (by omega)

theorem starts_mem : ∀ {l : List Nat} {k i : Nat}, l[i]? = some 3 → k + i + 1 ∈ starts l k
  | [], k, i, h => by simp at h
  | x :: l, k, 0, h => by
    have : x = 3 := by simpa using h
    subst this
    simp [starts]
  | x :: l, k, i + 1, h => by
    have := starts_mem (k := k + 1) (i := i) (l := l) (by simpa using h)
    rw [show k + 1 + i + 1 = k + (i + 1) + 1 by omega] at this
    unfold starts
    cases Nat.beq x 3
    · exact this
    · exact List.mem_cons_of_mem _ this

theorem floatsOf_mem {ks bs ps : List Nat} : ∀ {l : List Nat} {k j p : Nat}, l[j]? = some 1 → p ∈ ps → pinned ks bs (k + j) p = false → (k + j, p) ∈ floatsOf ks bs ps l k
  | [], k, j, p, h, _, _ => by simp at h
  | x :: l, k, 0, p, h, hp, hn => by
    have : x = 1 := by simpa using h
    subst this
    unfold floatsOf
    have e : Nat.beq 1 1 = true := rfl
    rw [e]
    simp only [cond_true, List.mem_append]
    left
    exact List.mem_map.2 ⟨p, List.mem_filter.2 ⟨hp, by rw [show k + 0 = k by omega] at hn; simp [hn]⟩, by simp⟩
  | x :: l, k, j + 1, p, h, hp, hn => by
    have := floatsOf_mem (ks := ks) (bs := bs) (ps := ps) (l := l) (k := k + 1) (j := j) (p := p) (by simpa using h) hp (by rw [show k + 1 + j = k + (j + 1) by omega]; exact hn)
    rw [show k + 1 + j = k + (j + 1) by omega] at this
    unfold floatsOf
    cases Nat.beq x 1
    · exact this
    · exact List.mem_append.2 (.inr this)

/-! What the run in the text's order kept. -/
def rec0 : Rec := ⟨.lf, ⟨.lf, .lf, 0⟩, .un, false⟩

def recAt (R : List Rec) (i : Nat) : Rec := match R[i]? with | some r => r | none => rec0

def RecOK (P : Program) (S : Self) (nt : Nat) (ops : Array Oper) (o : Oper) (r r' : Rec) : Prop :=
  guardOk ops r.t o = some r.w ∧ putT nt r.t o.dst r.v = some r'.t ∧ (r.w = false → r.v = .un ∧ r'.st = r.st) ∧ (r.w = true → evOp P S r.t r.st o = some (r.v, r'.st))

theorem recs_spec {P : Program} {S : Self} {nt : Nat} {ops : Array Oper} : ∀ {l : List Oper} {t : Tr AV} {st : St} {R : List Rec}, recs P S nt ops l t st = some R →
    R.length = l.length + 1 ∧ (recAt R 0).t = t ∧ (recAt R 0).st = st ∧ ∀ i o, l[i]? = some o → RecOK P S nt ops o (recAt R i) (recAt R (i + 1))
  | [], t, st, R, h => by
    cases h
    exact ⟨rfl, rfl, rfl, fun i o h => by simp at h⟩
  | o :: l, t, st, R, h => by
    have cons : ∀ {r : Rec} {t' : Tr AV} {st' : St} {k : Option (List Rec)}, onRec r k = some R → r.t = t → r.st = st → (∀ R', k = some R' → R'.length = l.length + 1 ∧ (recAt R' 0).t = t' ∧ (recAt R' 0).st = st' ∧ ∀ i o, l[i]? = some o → RecOK P S nt ops o (recAt R' i) (recAt R' (i + 1))) →
        (∀ r' : Rec, r'.t = t' → r'.st = st' → RecOK P S nt ops o r r') →
        R.length = (o :: l).length + 1 ∧ (recAt R 0).t = t ∧ (recAt R 0).st = st ∧ ∀ i x, (o :: l)[i]? = some x → RecOK P S nt ops x (recAt R i) (recAt R (i + 1)) := by
      intro r t' st' k hk ht hst hR hok
      cases k with
      | none => cases hk
      | some R' =>
        cases hk
        obtain ⟨k1, k2, k3, k4⟩ := hR R' rfl
        refine ⟨by simp [k1], ht, hst, fun i x hx => ?_⟩
        cases i with
        | zero =>
          have : o = x := by simpa using hx
          subst this
          exact hok _ k2 k3
        | succ i => exact k4 i x (by simpa using hx)
    unfold recs at h
    split at h
    · rename_i hg
      unfold recsV at h
      split at h
      · rename_i v st' hv
        unfold recsT at h
        split at h
        · rename_i t' hp
          exact cons h rfl rfl (fun R' hR' => recs_spec hR') fun r' e1 e2 => ⟨hg, (by rw [e1]; exact hp), fun h => (by cases h), fun _ => (by rw [e2]; exact hv)⟩
        · cases h
      · cases h
    · rename_i hg
      unfold recsT at h
      split at h
      · rename_i t' hp
        exact cons h rfl rfl (fun R' hR' => recs_spec hR') fun r' e1 e2 => ⟨hg, (by rw [e1]; exact hp), fun _ => ⟨rfl, e2⟩, fun h => (by cases h)⟩
      · cases h
    · cases h

theorem lastOf_spec : ∀ {R : List Rec} {n : Nat}, R.length = n + 1 → lastOf R = .nx (recAt R n).t (recAt R n).st
  | [], n, h => by simp at h
  | [r], n, h => by
    have : n = 0 := by simpa using h.symm
    subst this
    rfl
  | r :: q :: l, n, h => by
    cases n with
    | zero => simp at h
    | succ n =>
      have := lastOf_spec (R := q :: l) (n := n) (by simpa using h)
      exact this

end

end Go.Ev
