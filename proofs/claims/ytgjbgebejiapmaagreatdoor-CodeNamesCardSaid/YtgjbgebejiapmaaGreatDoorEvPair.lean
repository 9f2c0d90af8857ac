/- Two stores into different rows may be told either way round. -/
import Derived.Test.YtgjbgebejiapmaaGreatDoorEvSym2
namespace Go.Ev
noncomputable section
variable {P : Program} {S : Self}

theorem Tr.setW_comm {α : Type} (v w : Option α) : ∀ (p q : List Bool) (t : Tr α), p ≠ q → Tr.setW p v (Tr.setW q w t) = Tr.setW q w (Tr.setW p v t)
  | [], [], t, h => absurd rfl h
  | [], b :: q, .lf, _ => by cases b <;> rfl
  | [], b :: q, .nd o l r, _ => by cases b <;> rfl
  | b :: p, [], .lf, _ => by cases b <;> rfl
  | b :: p, [], .nd o l r, _ => by cases b <;> rfl
  | a :: p, b :: q, t, h => by
    have ih := fun t : Tr α => Tr.setW_comm v w p q t
    cases t with
    | lf =>
      cases a <;> cases b
      · have hpq : p ≠ q := fun e => h (by rw [e])
        show Tr.nd none .lf (Tr.setW p v (Tr.setW q w .lf)) = Tr.nd none .lf (Tr.setW q w (Tr.setW p v .lf))
        rw [ih _ hpq]
      · rfl
      · rfl
      · have hpq : p ≠ q := fun e => h (by rw [e])
        show Tr.nd none (Tr.setW p v (Tr.setW q w .lf)) .lf = Tr.nd none (Tr.setW q w (Tr.setW p v .lf)) .lf
        rw [ih _ hpq]
    | nd o l r =>
      cases a <;> cases b
      · have hpq : p ≠ q := fun e => h (by rw [e])
        show Tr.nd o l (Tr.setW p v (Tr.setW q w r)) = Tr.nd o l (Tr.setW q w (Tr.setW p v r))
        rw [ih _ hpq]
      · rfl
      · rfl
      · have hpq : p ≠ q := fun e => h (by rw [e])
        show Tr.nd o (Tr.setW p v (Tr.setW q w l)) r = Tr.nd o (Tr.setW q w (Tr.setW p v l)) r
        rw [ih _ hpq]

theorem Tr.set_comm {α : Type} (t : Tr α) {n m : Nat} (h : n ≠ m) (v w : Option α) : (t.set n v).set m w = (t.set m w).set n v := by
  unfold Tr.set
  rw [Tr.setW_comm]
  intro e
  apply h
  exact (way_inj e).symm

theorem setCe_ce_ne {st : St} {r r' : Nat} {l l' : List AV} {g g' : Nat} {al : List Nat} (h : st.ce r' = some (l', g', al)) (hr : r' ≠ r) (hg : g' ≠ g) : (st.setCe r l g).ce r' = some (l', g', al) := by
  obtain ⟨k1, k2, k3⟩ := ce_three h
  unfold St.ce
  rw [setCe_get hr, k1]
  have : (st.setCe r l g).live.get g' = some al := by simp [St.setCe, Tr.get_set, hg, k2]
  simp only [this, k3]
theorem wt_eq {st : St} {r o : Nat} {l : List AV} {g : Nat} {al : List Nat} (h : st.ce r = some (l, g, al)) (vs : List AV) : wt st r o vs = if o + vs.length ≤ l.length ∧ allSc vs = true then some (st.setCe r (ovr l o vs) g) else none := by
  by_cases hc : o + vs.length ≤ l.length ∧ allSc vs = true
  · rw [if_pos hc, wt_of h o vs hc.1 hc.2]
  · rw [if_neg hc]
    unfold wt
    rw [h]
    have : (Nat.ble (o + vs.length) l.length && allSc vs) = false := by
      rw [Bool.eq_false_iff]
      intro hh
      rw [Bool.and_eq_true] at hh
      exact hc ⟨Nat.le_of_ble_eq_true hh.1, hh.2⟩
    simp only [this]
theorem setCe_comm {st : St} {r1 r2 g1 g2 : Nat} {l1 l2 : List AV} (hr : r1 ≠ r2) (hg : g1 ≠ g2) : (st.setCe r1 l1 g1).setCe r2 l2 g2 = (st.setCe r2 l2 g2).setCe r1 l1 g1 := by
  unfold St.setCe
  simp only [Tr.set_comm _ hr, Tr.set_comm _ hg]

/-- Cells written in two rows of two families: either way round. -/
theorem wt_comm {st : St} {r1 o1 r2 o2 g1 g2 : Nat} {v1 v2 l1 l2 : List AV} {a1 a2 : List Nat} (h1 : st.ce r1 = some (l1, g1, a1)) (h2 : st.ce r2 = some (l2, g2, a2)) (hr : r1 ≠ r2) (hg : g1 ≠ g2) :
    (match wt st r1 o1 v1 with | some s => wt s r2 o2 v2 | none => none) = (match wt st r2 o2 v2 with | some s => wt s r1 o1 v1 | none => none) := by
  rw [wt_eq h1, wt_eq h2]
  by_cases c1 : o1 + v1.length ≤ l1.length ∧ allSc v1 = true
  · by_cases c2 : o2 + v2.length ≤ l2.length ∧ allSc v2 = true
    · rw [if_pos c1, if_pos c2]
      simp only
      rw [wt_eq (setCe_ce_ne h2 (Ne.symm hr) (Ne.symm hg)), wt_eq (setCe_ce_ne h1 hr hg), if_pos c2, if_pos c1, setCe_comm hr hg]
    · rw [if_pos c1, if_neg c2]
      simp only
      rw [wt_eq (setCe_ce_ne h2 (Ne.symm hr) (Ne.symm hg)), if_neg c2]
  · by_cases c2 : o2 + v2.length ≤ l2.length ∧ allSc v2 = true
    · rw [if_neg c1, if_pos c2]
      simp only
      rw [wt_eq (setCe_ce_ne h1 hr hg), if_neg c1]
    · rw [if_neg c1, if_neg c2]

/-- A store of which the row is known. -/
theorem store_row {ty : TypeId} {st : St} {r o : Nat} {v : AV} {s : St} (h : storeAt P ty st (.p r o) v = some s) : ∃ l, v.cells = some l ∧ hasInfo P ty = true ∧ l.length = szOf P ty ∧ wt st r o l = some s := by
  have h' : storeC P ty st r o v.cells = some s := h
  cases hc : v.cells with
  | none => rw [hc] at h'; cases h'
  | some l =>
    rw [hc] at h'
    unfold storeC at h'
    obtain ⟨h1, h2⟩ := brec h'
    rw [Bool.and_eq_true] at h1
    exact ⟨l, rfl, h1.1, Nat.eq_of_beq_eq_true h1.2, h2⟩

/-! The run of a region, told in two ways. -/
/-- Two operations that are the same, but for what must come ahead. -/
def Sames (o o' : Oper) : Prop := o.op = o'.op ∧ o.dst = o'.dst ∧ o.guard = o'.guard
def SamesL : List Oper → List Oper → Prop
  | [], [] => True
  | o :: l, o' :: l' => Sames o o' ∧ SamesL l l'
  | _, _ => False

theorem guardBy_bind {ops : Array Oper} {t : Tr AV} {j : Nat} {w : Bool} : guardBy ops t j w = match (ops[j]?).bind (fun o : Oper => o.dst) with | some d => guardV w (t.get d) | none => none := by
  unfold guardBy
  cases ops[j]? with
  | none => rfl
  | some g => cases hg : g.dst <;> simp [hg]

theorem evOps_sames {nt : Nat} {ops ops' : Array Oper} (hd : ∀ j : Nat, (ops[j]?).bind (fun o : Oper => o.dst) = (ops'[j]?).bind (fun o : Oper => o.dst)) : ∀ (l l' : List Oper) (t : Tr AV) (st : St), SamesL l l' → evOps P S nt ops l t st = evOps P S nt ops' l' t st
  | [], [], _, _, _ => rfl
  | [], _ :: _, _, _, h => h.elim
  | _ :: _, [], _, _, h => h.elim
  | ⟨d, op, ty, ps, af, g⟩ :: l, ⟨d', op', ty', ps', af', g'⟩ :: l', t, st, h => by
    obtain ⟨⟨h1, h2, h3⟩, h4⟩ := h
    have h1 : op = op' := h1
    have h2 : d = d' := h2
    have h3 : g = g' := h3
    subst h1; subst h2; subst h3
    have ih := fun t st => evOps_sames (nt := nt) hd l l' t st h4
    have hk : evOps P S nt ops l = evOps P S nt ops' l' := funext fun t => funext fun st => ih t st
    cases g with
    | none => rw [evOps_cons, evOps_cons, hk]
    | some jb =>
      obtain ⟨j, b⟩ := jb
      rw [evOps_guard, evOps_guard, hk, guardBy_bind, guardBy_bind, hd]
      rfl

theorem recs_mid {nt : Nat} {ops : Array Oper} : ∀ (pre rest : List Oper) (t : Tr AV) (st : St) (R : List Rec), recs P S nt ops (pre ++ rest) t st = some R →
    ∃ r, R[pre.length]? = some r ∧ ∀ rest', evOps P S nt ops (pre ++ rest') t st = evOps P S nt ops rest' r.t r.st := by
  have head : ∀ (l : List Oper) (t : Tr AV) (st : St) (R : List Rec), recs P S nt ops l t st = some R → ∃ r, R[0]? = some r ∧ r.t = t ∧ r.st = st := by
    intro l t st R h
    have onr : ∀ (r : Rec) (q : Option (Tr AV)) (k : Tr AV → Option (List Rec)), recsT r q k = some R → R[0]? = some r := by
      intro r q k h
      cases q with
      | none => cases h
      | some t =>
        have h : onRec r (k t) = some R := h
        cases hk : k t with
        | none => rw [hk] at h; cases h
        | some l => rw [hk] at h; cases h; rfl
    cases l with
    | nil => cases h; exact ⟨_, rfl, rfl, rfl⟩
    | cons o l =>
      have h : (match guardOk ops t o with
        | some true => recsV nt t st o.dst (evOp P S t st o) (recs P S nt ops l)
        | some false => recsT ⟨t, st, .un, false⟩ (putT nt t o.dst .un) fun t => recs P S nt ops l t st
        | none => none) = some R := h
      cases hg : guardOk ops t o with
      | none => rw [hg] at h; cases h
      | some b =>
        rw [hg] at h
        cases b with
        | false => exact ⟨_, onr _ _ _ h, rfl, rfl⟩
        | true =>
          have h : recsV nt t st o.dst (evOp P S t st o) (recs P S nt ops l) = some R := h
          cases he : evOp P S t st o with
          | none => rw [he] at h; cases h
          | some p => rw [he] at h; exact ⟨_, onr _ _ _ h, rfl, rfl⟩
  intro pre
  induction pre with
  | nil =>
    intro rest t st R h
    obtain ⟨r, h1, h2, h3⟩ := head _ _ _ _ h
    exact ⟨r, h1, fun rest' => by rw [h2, h3]; rfl⟩
  | cons o pre ih =>
    intro rest t st R h
    have h : (match guardOk ops t o with
      | some true => recsV nt t st o.dst (evOp P S t st o) (recs P S nt ops (pre ++ rest))
      | some false => recsT ⟨t, st, .un, false⟩ (putT nt t o.dst .un) fun t => recs P S nt ops (pre ++ rest) t st
      | none => none) = some R := h
    have e1 : ∀ rest', evOps P S nt ops (o :: pre ++ rest') t st = onG P S nt o t st (evOps P S nt ops (pre ++ rest')) (guardOk ops t o) := fun _ => rfl
    have tl : ∀ (r : Rec) (q : Option (Tr AV)) (st' : St), recsT r q (fun t => recs P S nt ops (pre ++ rest) t st') = some R → ∃ r', R[pre.length + 1]? = some r' ∧ ∀ rest', onT q (fun t => evOps P S nt ops (pre ++ rest') t st') = evOps P S nt ops rest' r'.t r'.st := by
      intro r q st' h
      cases q with
      | none => cases h
      | some t' =>
        have h : onRec r (recs P S nt ops (pre ++ rest) t' st') = some R := h
        cases hk : recs P S nt ops (pre ++ rest) t' st' with
        | none => rw [hk] at h; cases h
        | some R' =>
          rw [hk] at h; cases h
          obtain ⟨r', h1, h2⟩ := ih rest t' st' R' hk
          exact ⟨r', by simpa using h1, fun rest' => by rw [onT_some]; exact h2 rest'⟩
    cases hg : guardOk ops t o with
    | none => rw [hg] at h; cases h
    | some b =>
      rw [hg] at h
      cases b with
      | false =>
        obtain ⟨r', h1, h2⟩ := tl _ _ _ h
        exact ⟨r', h1, fun rest' => by rw [e1, hg]; exact h2 rest'⟩
      | true =>
        have h : recsV nt t st o.dst (evOp P S t st o) (recs P S nt ops (pre ++ rest)) = some R := h
        cases he : evOp P S t st o with
        | none => rw [he] at h; cases h
        | some p =>
          rw [he] at h
          obtain ⟨v, st'⟩ := p
          obtain ⟨r', h1, h2⟩ := tl _ _ _ h
          refine ⟨r', h1, fun rest' => ?_⟩
          rw [e1, hg]
          show onV nt t o.dst (evOp P S t st o) _ = _
          rw [he]
          exact h2 rest'

/-- Two stores, either way round. -/
theorem evOps_swap {nt : Nat} {ops : Array Oper} {ty1 ty2 t1 t2 : TypeId} {a1 v1 a2 v2 : Operand} {p1 p2 : String} {f1 f2 : Array Edge} {l : List Oper} {t : Tr AV} {st : St} {r1 o1 r2 o2 g1 g2 : Nat} {c1 c2 : List AV} {b1 b2 : List Nat}
    (h1 : evO t a1 = .p r1 o1) (h2 : evO t a2 = .p r2 o2) (k1 : st.ce r1 = some (c1, g1, b1)) (k2 : st.ce r2 = some (c2, g2, b2)) (hr : r1 ≠ r2) (hg : g1 ≠ g2) :
    evOps P S nt ops (⟨none, .store ty1 a1 v1, t1, p1, f1, none⟩ :: ⟨none, .store ty2 a2 v2, t2, p2, f2, none⟩ :: l) t st = evOps P S nt ops (⟨none, .store ty2 a2 v2, t2, p2, f2, none⟩ :: ⟨none, .store ty1 a1 v1, t1, p1, f1, none⟩ :: l) t st := by
  have one : ∀ (ty t0 : TypeId) (a v : Operand) (p : String) (f : Array Edge) (m : List Oper) (s : St), evOps P S nt ops (⟨none, .store ty a v, t0, p, f, none⟩ :: m) t s = match storeAt P ty s (evO t a) (evO t v) with | some s' => evOps P S nt ops m t s' | none => .no := by
    intro ty t0 a v p f m s
    rw [evOps_cons, opH_store]
    cases storeAt P ty s (evO t a) (evO t v) with
    | none => rfl
    | some s' => rw [done_some, onV_some, putT_none, onT_some]
  have st2 : ∀ (ty : TypeId) (s : St) (r o : Nat) (v : AV), storeAt P ty s (.p r o) v = match v.cells with | some l => if hasInfo P ty = true ∧ l.length = szOf P ty then wt s r o l else none | none => none := by
    intro ty s r o v
    show storeC P ty s r o v.cells = _
    cases v.cells with
    | none => rfl
    | some l =>
      show (@Bool.rec (fun _ => Option St) none (wt s r o l) (hasInfo P ty && Nat.beq l.length (szOf P ty))) = if hasInfo P ty = true ∧ l.length = szOf P ty then wt s r o l else none
      by_cases hh : hasInfo P ty = true ∧ l.length = szOf P ty
      · rw [if_pos hh, hh.1, nbeq, decide_eq_true hh.2]; rfl
      · rw [if_neg hh]
        have : (hasInfo P ty && Nat.beq l.length (szOf P ty)) = false := by
          rw [Bool.eq_false_iff]; intro h'
          rw [Bool.and_eq_true] at h'
          exact hh ⟨h'.1, Nat.eq_of_beq_eq_true h'.2⟩
        rw [this]
  rw [one, one]
  simp only [h1, h2, one]
  simp only [st2]
  cases (evO t v1).cells with
  | none =>
    cases (evO t v2).cells with
    | none => rfl
    | some l2 =>
      simp only
      split <;> rfl
  | some l1 =>
    cases (evO t v2).cells with
    | none =>
      simp only
      split <;> rfl
    | some l2 =>
      simp only
      have key := wt_comm (o1 := o1) (o2 := o2) (v1 := l1) (v2 := l2) k1 k2 hr hg
      by_cases q1 : hasInfo P ty1 = true ∧ l1.length = szOf P ty1
      · by_cases q2 : hasInfo P ty2 = true ∧ l2.length = szOf P ty2
        · simp only [if_pos q1, if_pos q2]
          generalize hA : wt st r1 o1 l1 = A at *
          generalize hB : wt st r2 o2 l2 = B at *
          cases A with
          | none =>
            cases B with
            | none => rfl
            | some s2 =>
              simp only at key ⊢
              rw [← key]
          | some s1 =>
            cases B with
            | none =>
              simp only at key ⊢
              rw [key]
            | some s2 =>
              simp only at key ⊢
              rw [key]
        · simp only [if_pos q1, if_neg q2]
          cases wt st r1 o1 l1 <;> rfl
      · by_cases q2 : hasInfo P ty2 = true ∧ l2.length = szOf P ty2
        · simp only [if_neg q1, if_pos q2]
          cases wt st r2 o2 l2 <;> rfl
        · simp only [if_neg q1, if_neg q2]

end
end Go.Ev
