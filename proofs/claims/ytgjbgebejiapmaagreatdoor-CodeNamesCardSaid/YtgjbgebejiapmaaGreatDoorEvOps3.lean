/- Each operation does in the model's memory what it does in the abstract state: '==' of structs, places, slices, small operations. -/
import Derived.Test.YtgjbgebejiapmaaGreatDoorEvOps2
namespace Go.Ev

noncomputable section

section
variable {P : Program} {w : World} {E : Env} {st : St}

theorem eqFs_spec {xs ys : List AV} {us vs : Array Value} (hx : ConcL E xs us.toList) (hy : ConcL E ys vs.toList) (d : Nat) : ∀ (fs : List Field) (r : Bool), eqFs P xs ys fs = some r → (Op.eqFields (d + 1) us vs fs).run P w = .ok r w
  | [], r, h => by
    simp only [eqFs] at h; cases h
    simp [Op.eqFields]
  | f :: fs, r, h => by
    simp only [eqFs] at h
    cases hn : (f.name == "_") with
    | true => rw [hn] at h; cases h
    | false =>
      rw [hn] at h
      simp only at h
      cases h1 : part P f.type xs f.offset with
      | none => rw [h1] at h; cases h
      | some a =>
        cases h2 : part P f.type ys f.offset with
        | none => rw [h1, h2] at h; cases h
        | some b =>
          rw [h1, h2] at h
          simp only at h
          obtain ⟨u, hu1, hu2⟩ := part_spec (P := P) (w := w) h1 hx
          obtain ⟨v, hv1, hv2⟩ := part_spec (P := P) (w := w) h2 hy
          have hne : f.name ≠ "_" := by simpa using hn
          simp only [Op.eqFields, ne_eq, hne, not_false_eq_true, if_true, Sem.run_bind, hu1, hv1, Result.andThen_ok]
          cases h3 : eqT1 P f.type a b with
          | none => rw [h3] at h; cases h
          | some q =>
            rw [eqT1_spec h3 hu2 hv2 d, Result.andThen_ok]
            rw [h3] at h
            cases q with
            | true =>
              simp only [Bool.not_true, Bool.false_eq_true, if_false]
              exact eqFs_spec hx hy d fs r h
            | false => cases h; simp

theorem eqGuard_pure {t : TypeId} {xo yo : Operand} {op : BinOp} {u1 u2 : Value} (h1 : u1 = .nilIface → u2 = .nilIface → False) (h2 : ∀ a b, u1 = .agg a → u2 = .agg b → False) :
    (Go.eqGuard op t xo yo u1 u2).run P w = .ok () w := by
  unfold Go.eqGuard
  cases op <;> first | rfl | (simp only [Bool.not_true, Bool.false_eq_true, if_false]; rfl)

theorem eqV_bad {t : TypeId} {c : Bool} {y : AV} : eqV P t c .bad y = none := by
  have e : eqV P t c .bad y = orElse (eqT1 P t .bad y) (eqC P t .bad y) := rfl
  have e1 : eqT1 P t .bad y = none := by
    unfold eqT1
    split <;> rfl
  have e2 : eqC P t .bad y = none := by
    unfold eqC
    cases isChan P t <;> rfl
  rw [e, e1, e2]; rfl

theorem eqV_spec {t : TypeId} {xo yo : Operand} {op : BinOp} {x y : AV} {r : Bool} {u1 u2 : Value} (h : eqV P t (isK xo || isK yo) x y = some r) (hx : Conc E x u1) (hy : Conc E y u2) :
    (Go.eqGuard op t xo yo u1 u2).run P w = .ok () w ∧ (Op.equal t u1 u2).run P w = .ok r w := by
  unfold eqV at h
  split at h
  · rename_i xs ys
    cases hx with
    | ag _ us hus =>
      cases hy with
      | ag _ vs hvs =>
        unfold eqAg at h
        split at h
        · rename_i fs hf
          obtain ⟨hb, h'⟩ := brec h
          simp only [Bool.and_eq_true, Bool.not_eq_true'] at hb
          constructor
          · cases op <;> simp [Go.eqGuard, hb.2]
          · have hfo : P.fieldsOf t = fs := by simp [Program.fieldsOf, hf]
            show (Op.equalIn (9999 + 1) t _ _).run P w = _
            rw [run_equalIn_struct w 9999 t _ _ (by rw [hf, hfo]) hb.1, hfo]
            exact eqFs_spec (us := us.toArray) (vs := vs.toArray) (by simpa using hus) (by simpa using hvs) 9998 fs.toList r h'
        · cases h
  · obtain ⟨hc, h'⟩ := brec h
    cases hx; cases hy
    constructor
    · rw [Bool.or_eq_true] at hc
      rcases hc with hc | hc
      · cases xo <;> simp [isK] at hc
        cases op <;> simp [Go.eqGuard]
      · cases yo <;> simp [isK] at hc
        cases op <;> simp [Go.eqGuard]
    · exact eqT1_spec h' (E := E) .if0 .if0 9999
  · rename_i h1 h2
    cases he : eqT1 P t x y with
    | none =>
      rw [he] at h
      have h : @Bool.rec (fun _ => Option Bool) none (eqNil x.nilC y.nilC) (isChan P t) = some r := h
      obtain ⟨hc, h⟩ := brec h
      have hu : ∃ dd e, P.underlying t = some (.chan dd e) := by
        unfold isChan at hc
        split at hc
        · rename_i dd e hu; exact ⟨dd, e, hu⟩
        · cases hc
      obtain ⟨dd, e, hu⟩ := hu
      have key : ∀ {x : AV} {u : Value} {b : Bool}, x.nilC = some b → Conc E x u → ∃ a, u = .chan a ∧ a.isNone = b := by
        intro x u b h hx
        cases hx <;> cases h <;> exact ⟨_, rfl, rfl⟩
      have fin : ∃ a b, u1 = .chan a ∧ u2 = .chan b ∧ (a == b) = r := by
        rcases eqNil_spec h with ⟨h1, h2⟩ | ⟨h1, h2, rfl⟩
        · obtain ⟨a, rfl, ha⟩ := key h1 hx
          obtain ⟨b, rfl, hb⟩ := key h2 hy
          cases a <;> simp at ha
          refine ⟨none, b, rfl, rfl, ?_⟩
          cases b <;> simp at hb <;> subst hb <;> rfl
        · obtain ⟨a, rfl, ha⟩ := key h1 hx
          obtain ⟨b, rfl, hb⟩ := key h2 hy
          cases a <;> simp at ha
          cases b <;> simp at hb
          exact ⟨_, _, rfl, rfl, rfl⟩
      obtain ⟨a, b, rfl, rfl, hab⟩ := fin
      refine ⟨eqGuard_pure (fun e => by cases e) (fun _ _ e => by cases e), ?_⟩
      have : ∀ d, (Op.equalIn (d + 1) t (.chan a) (.chan b)).run P w = .ok r w := fun d => by simp [Op.equalIn, run_under hu, hab]
      exact this 9999
    | some vv =>
    have h : eqT1 P t x y = some r := by rw [he] at h; rw [he]; exact h
    refine ⟨?_, eqT1_spec h hx hy 9999⟩
    have n1 : ∀ vs, u1 = .agg vs → ∃ l, x = .ag l ∨ x = .bad := by
      rintro vs rfl; cases hx; exact ⟨[], .inr rfl⟩; exact ⟨_, .inl rfl⟩
    have n2 : ∀ vs, u2 = .agg vs → ∃ l, y = .ag l ∨ y = .bad := by
      rintro vs rfl; cases hy; exact ⟨[], .inr rfl⟩; exact ⟨_, .inl rfl⟩
    have m1 : u1 = .nilIface → x = .if0 ∨ x = .bad := by rintro rfl; cases hx; exact .inr rfl; exact .inl rfl
    have m2 : u2 = .nilIface → y = .if0 ∨ y = .bad := by rintro rfl; cases hy; exact .inr rfl; exact .inl rfl
    have bx : x ≠ .bad := by
      rintro rfl
      unfold eqT1 at h
      split at h <;> first | cases h | skip
      all_goals (revert h; simp only [eqB, eqI, eqStr, eqNil, orElse, eqP2]; intro h; cases h)
    have by_ : y ≠ .bad := by
      rintro rfl
      have e1 : AV.bad.asB = none := rfl
      have e2 : AV.bad.asI = none := rfl
      have e3 : AV.bad.asS = none := rfl
      have e4 : AV.bad.asP = none := rfl
      have e5 : AV.bad.nilP = none := rfl
      have e6 : AV.bad.nilS = none := rfl
      have e7 : AV.bad.nilM = none := rfl
      have e8 : AV.bad.nilF = none := rfl
      have e9 : AV.bad.nilI = none := rfl
      have en : ∀ o : Option Bool, eqNil o none = none := by rintro (_ | _ | _) <;> rfl
      unfold eqT1 at h
      simp only [eqB, eqI, eqStr, eqP2, e1, e2, e3, e4, e5, e6, e7, e8, e9, en, orElse] at h
      split at h <;> first | cases h | skip
      · revert h; cases x.asB <;> intro h <;> cases h
      · revert h; rcases x.asI with _ | ⟨_, _⟩ <;> intro h <;> cases h
      · revert h; cases x.asS <;> intro h <;> cases h
      · revert h; rcases x.asP with _ | ⟨_, _⟩ <;> intro h <;> cases h
    refine eqGuard_pure (fun e1 e2 => ?_) (fun a b e1 e2 => ?_)
    · exact h2 ((m1 e1).resolve_right bx) ((m2 e2).resolve_right by_)
    · obtain ⟨l, hl⟩ := n1 _ e1
      obtain ⟨l', hl'⟩ := n2 _ e2
      exact h1 l l' (hl.resolve_right bx) (hl'.resolve_right by_)

theorem binOp_spec {t : TypeId} {xo yo : Operand} {op : BinOp} {x y v : AV} {u1 u2 : Value} (h : binOp P t (isK xo || isK yo) op x y = some v) (hx : Conc E x u1) (hy : Conc E y u2) :
    ∃ z, (do Go.eqGuard op t xo yo u1 u2; Go.binOp op t u1 u2 : Sem Value).run P w = .ok z w ∧ Conc E v z := by
  have gi : ∀ k a k' b, (Go.eqGuard op t xo yo (.int k a) (.int k' b)).run P w = .ok () w := fun k a k' b => eqGuard_pure (fun e => by cases e) (fun _ _ e => by cases e)
  have gs : ∀ a b, (Go.eqGuard op t xo yo (.string a) (.string b)).run P w = .ok () w := fun a b => eqGuard_pure (fun e => by cases e) (fun _ _ e => by cases e)
  unfold binOp at h
  cases h1 : x.asI with
  | some ka =>
    obtain ⟨k, a⟩ := ka
    have := AV.asI_some h1; subst this
    rw [h1] at h
    cases hx
    obtain ⟨z, hz, hc, k', b, rfl⟩ := binI_spec (P := P) (w := w) h hy t
    exact ⟨z, by rw [Sem.run_bind, gi, Result.andThen_ok]; exact hz, hc⟩
  | none =>
    rw [h1] at h
    simp only at h
    cases h2 : x.asS with
    | some l =>
      have := AV.asS_some h2; subst this
      rw [h2] at h
      simp only [binS] at h
      cases h3 : y.asS with
      | none => rw [h3] at h; cases h
      | some l' =>
        have := AV.asS_some h3; subst this
        rw [h3] at h
        cases hx with
        | s a =>
          cases hy with
          | s b =>
            obtain ⟨z, hz, hc⟩ := strOp_spec (P := P) (w := w) (E := E) h t
            exact ⟨z, by rw [Sem.run_bind, gs, Result.andThen_ok]; exact hz, hc⟩
    | none =>
      rw [h2] at h
      simp only [eqOp] at h
      have hni : ∀ k n, u1 ≠ .int k n := by
        rintro k n rfl
        cases hx
        · cases op <;> simp only at h <;> first | cases h | skip
          all_goals
            have e : eqV P t (isK xo || isK yo) .bad y = none := eqV_bad
            rw [e] at h; cases h
        · cases h1
      have hns : ∀ n, u1 ≠ .string n := by
        rintro n rfl
        cases hx
        · cases op <;> simp only at h <;> first | cases h | skip
          all_goals
            have e : eqV P t (isK xo || isK yo) .bad y = none := eqV_bad
            rw [e] at h; cases h
        · cases h2
      have hnf : ∀ k n, u1 ≠ .float k n := by
        rintro k n rfl
        cases hx
        cases op <;> simp only at h <;> first | cases h | skip
        all_goals
          have e : eqV P t (isK xo || isK yo) .bad y = none := eqV_bad
          rw [e] at h; cases h
      have hnc : ∀ k n m, u1 ≠ .complex k n m := by
        rintro k n m rfl
        cases hx
        cases op <;> simp only at h <;> first | cases h | skip
        all_goals
          have e : eqV P t (isK xo || isK yo) .bad y = none := eqV_bad
          rw [e] at h; cases h
      cases op <;> simp only at h <;> first | cases h | skip
      · cases h3 : eqV P t (isK xo || isK yo) x y with
        | none => rw [h3] at h; cases h
        | some r =>
          rw [h3] at h; cases h
          obtain ⟨g1, g2⟩ := eqV_spec (w := w) (op := .eql) h3 hx hy
          refine ⟨.bool r, ?_, .b r⟩
          rw [Sem.run_bind, g1, Result.andThen_ok]
          cases u1 <;> first | exact absurd rfl (hni _ _) | exact absurd rfl (hns _) | exact absurd rfl (hnf _ _) | exact absurd rfl (hnc _ _ _) | simp [Go.binOp, g2]
      · cases h3 : eqV P t (isK xo || isK yo) x y with
        | none => rw [h3] at h; cases h
        | some r =>
          rw [h3] at h; cases h
          obtain ⟨g1, g2⟩ := eqV_spec (w := w) (op := .neq) h3 hx hy
          refine ⟨.bool (!r), ?_, .b _⟩
          rw [Sem.run_bind, g1, Result.andThen_ok]
          cases u1 <;> first | exact absurd rfl (hni _ _) | exact absurd rfl (hns _) | exact absurd rfl (hnf _ _) | exact absurd rfl (hnc _ _ _) | simp [Go.binOp, g2]

theorem unOp_spec {op : UnOp} {x v : AV} {u : Value} (h : unOp op x = some v) (hx : Conc E x u) : ∃ z, (Op.unary op u).run P w = .ok z w ∧ Conc E v z := by
  unfold unOp at h
  split at h
  · cases h; cases hx
    rename_i k n
    exact ⟨.int k (k.wrap (0 - n)), by simp [Op.unary, Op.intArith], by rw [wr_eq]; exact .i k _⟩
  · cases h; cases hx
    exact ⟨_, by simp [Op.unary, Op.intBits], .i _ _⟩
  · cases h; cases hx
    exact ⟨_, by simp [Op.unary], .b _⟩
  · cases h
end

end

end Go.Ev
