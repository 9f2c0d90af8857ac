/- More equations: regions that draw their order; fields of structs; bodies, where contracts are known. -/
import Derived.Test.YtfhhbndndhnpjaaGreatDoorEvSym2
import Derived.Test.YtfhhbndndhnpjaaGreatDoorEvPure
namespace Go.Ev
noncomputable section

section
variable {P : Program} {S : Self} {nt : Nat} {ops : Array Oper} {t : Tr AV} {st : St} {l : List Oper}
@[simp] theorem recs_nil : recs P S nt ops [] t st = some [⟨t, st, .un, false⟩] := rfl
@[simp] theorem recs_cons {d : Option Tmp} {op : Op} {ty : TypeId} {pos : String} {af : Array Edge} : recs P S nt ops (⟨d, op, ty, pos, af, none⟩ :: l) t st = recsV nt t st d (opH op P S t st) (recs P S nt ops l) := rfl
@[simp] theorem recs_guard {d : Option Tmp} {op : Op} {ty : TypeId} {pos : String} {af : Array Edge} {j : Nat} {b : Bool} : recs P S nt ops (⟨d, op, ty, pos, af, some (j, b)⟩ :: l) t st =
    match guardBy ops t j b with
    | some true => recsV nt t st d (opH op P S t st) (recs P S nt ops l)
    | some false => recsT ⟨t, st, .un, false⟩ (putT nt t d .un) fun t => recs P S nt ops l t st
    | none => none := rfl
@[simp] theorem recsV_some {d : Option Tmp} {v : AV} {st' : St} {k : Tr AV → St → Option (List Rec)} : recsV nt t st d (some (v, st')) k = recsT ⟨t, st, v, true⟩ (putT nt t d v) fun t => k t st' := rfl
@[simp] theorem recsT_some {r : Rec} {k : Tr AV → Option (List Rec)} : recsT r (some t) k = onRec r (k t) := rfl
@[simp] theorem onRec_some {r : Rec} {l : List Rec} : onRec r (some l) = some (r :: l) := rfl
theorem recheck_of {R : List Rec} {j p : Nat} {r q : Rec} {o : Oper} (h1 : R[j]? = some r) (h2 : R[p]? = some q) (h3 : ops[j]? = some o) {u : AV} {s : St} (h4 : opH o.op P S r.t q.st = some (u, s)) (h5 : avEq 4 r.v u = true) : recheck P S ops R (j, p) = true := by
  unfold recheck
  simp only [h1, h2, h3]
  unfold recheckO
  cases hw : r.w
  · rfl
  · show sameR r.v (evOp P S r.t q.st o) = true
    have : evOp P S r.t q.st o = some (u, s) := h4
    rw [this]; exact h5
theorem avEq_i (k : IntKind) (n : Int) : avEq 4 (.i k n) (.i k n) = true := by
  simp [avEq, keq, ieq_eq]
theorem avEq_b (x : Bool) : avEq 4 (.b x) (.b x) = true := by
  simp [avEq]

/-! Fields. -/
@[simp] theorem opH_field {s : TypeId} {a : Operand} {n : Nat} : opH (.field s a n) P S t st = match fieldOf P s n, evO t a with | some f, .ag cs => give st (part P f.type cs f.offset) | _, _ => none := rfl
theorem part_one {ty : TypeId} {cs : List AV} {o : Nat} (h : hasInfo P ty = true) (ha : isAg P ty = false) : part P ty cs o = oneOf (cut cs o 1) := by unfold part; rw [h, ha]
theorem part_ag {ty : TypeId} {cs : List AV} {o : Nat} (h : hasInfo P ty = true) (ha : isAg P ty = true) : part P ty cs o = agOf (cut cs o (szOf P ty)) := by unfold part; rw [h, ha]
@[simp] theorem opH_box {ty : TypeId} {a : Operand} : opH (.box ty a) P S t st = allocC st (evO t a).cells := rfl
@[simp] theorem allocC_some (l : List AV) : allocC st (some l) = some (.p st.next 0, st.newCe l) := rfl
@[simp] theorem agOf_some (l : List AV) : agOf (some l) = some (.ag l) := rfl
theorem cut_drop : ∀ (l : List AV) (o n : Nat), o + n ≤ l.length → cut l o n = some ((l.drop o).take n)
  | l, 0, n, h => by rw [cut_zero, takeN_take _ _ (by omega), List.drop_zero]
  | [], o + 1, n, h => by simp at h
  | v :: l, o + 1, n, h => by rw [cut_succ, cut_drop l o n (by simp at h; omega)]; simp
theorem str_eql {ty : TypeId} {c : Bool} {x y : List Nat} : Go.Ev.binOp P ty c .eql (.s x) (.s y) = some (.b (leq x y)) := rfl
theorem bool_eql {ty : TypeId} {c x y : Bool} (h : P.underlying ty = some .bool) : Go.Ev.binOp P ty c .eql (.b x) (.b y) = some (.b (x == y)) := by
  show eqOp P ty c .eql (.b x) (.b y) = _
  simp [eqOp, eqV, eqT1, h, eqB, orElse]
@[simp] theorem opH_max {as1 : Array Operand} {ts : Array TypeId} : opH (.call { callee := .builtin .max, args := as1, argTypes := ts }) P S t st = bMax P st ts.toList (args t as1.toList) := rfl
theorem max_zero {ts : List TypeId} (m : Int) : bMax P st ts [.i .i64 0, .i .i64 m] = some (.i .i64 (m.toNat : Int), st) := by
  show some (AV.i .i64 (@Bool.rec (fun _ => Int) 0 m (ilt 0 m)), st) = _
  rw [ilt_eq]
  by_cases h : (0 : Int) < m
  · rw [decide_eq_true h]
    show some (AV.i .i64 m, st) = _
    rw [show ((m.toNat : Int)) = m by omega]
  · rw [decide_eq_false h]
    show some (AV.i .i64 0, st) = _
    rw [show ((m.toNat : Int)) = 0 by omega]

/-! Bodies. -/
theorem body_eqW {W : Self → Self} {n : Nat} {f : FuncId} {xs : List AV} {fn : Func} {c : Code} (hW : ∀ S xs st, (W S).call f xs st = S.call f xs st) (h : P.funcs[f]? = some fn) (hb : fn.body = some c) (hn : xs.length ≤ fn.ntmps) :
    (selfW P W (n + 1)).call f xs st = endF P fn.results.toList (evC c ⟨P, selfW P W n, false, fn.ntmps, n⟩ (tmpsOf xs 0 .lf) st) := by
  show (W ⟨evBody P (selfW P W n) n, _⟩).call f xs st = _
  rw [hW]
  exact body_at h hb hn
end

/-! What is kept. -/
theorem kp_new {A B A' B' : List Nat} {a b c : St} (h : Kp A B a b) (k : Kp A' B' b c) (hA : ∀ x, x ∈ A' → a.next ≤ x) (hB : ∀ x, x ∈ B' → a.next ≤ x) : Kp A B a c :=
  ⟨Nat.le_trans h.next k.next, fun r h1 h2 => (k.get r (Nat.lt_of_lt_of_le h1 h.next) fun hh => absurd (hA r hh) (Nat.not_le.2 h1)).trans (h.get r h1 h2), fun g h1 h2 =>
    (k.live g (Nat.lt_of_lt_of_le h1 h.next) fun hh => absurd (hB g hh) (Nat.not_le.2 h1)).trans (h.live g h1 h2)⟩
theorem ovr_one : ∀ (l : List AV) (i : Nat) (v : AV), ovr l i [v] = l.set i v
  | [], 0, v => rfl
  | x :: l, 0, v => by simp
  | [], i + 1, v => rfl
  | x :: l, i + 1, v => by simp [ovr_one l i v]

end
end Go.Ev
