/- What an abstract value, a row, a state say of the model's values and memory. -/
import Derived.Test.YtgjbgebejiapmaaGreatDoorEvRun
namespace Go.Ev

/-! The tree. -/
theorem nbeq (a b : Nat) : Nat.beq a b = decide (a = b) := by
  rw [Bool.eq_iff_iff]; simp [Nat.beq_eq]

theorem wayF_succ (f n : Nat) : wayF (f + 1) n = if n = 0 then [] else if n % 2 = 1 then true :: wayF f (n / 2) else false :: wayF f (n / 2 - 1) := by
  have h : wayF (f + 1) n = @Bool.rec (fun _ => List Bool) (@Bool.rec (fun _ => List Bool) (false :: wayF f (n / 2 - 1)) (true :: wayF f (n / 2)) (Nat.beq (n % 2) 1)) [] (Nat.beq n 0) := rfl
  rw [h, nbeq, nbeq]
  by_cases h0 : n = 0
  · simp [h0]
  · by_cases h1 : n % 2 = 1 <;> simp [h0, h1]

theorem way_rec : ∀ (f n : Nat), n ≤ f → ∀ g m, m ≤ g → wayF f n = wayF g m → n = m := by
  intro f
  induction f with
  | zero =>
    intro n hn g m hm h
    have : n = 0 := by omega
    subst this
    cases g with
    | zero => omega
    | succ g =>
      rw [wayF_succ] at h
      by_cases e : m = 0
      · exact e.symm
      · exfalso
        rw [if_neg e, show wayF 0 0 = [] from rfl] at h
        split at h <;> cases h
  | succ f ih =>
    intro n hn g m hm h
    rw [wayF_succ] at h
    by_cases e : n = 0
    · subst e
      cases g with
      | zero => omega
      | succ g =>
        rw [wayF_succ] at h
        by_cases e : m = 0
        · exact e.symm
        · exfalso
          rw [if_neg e, if_pos rfl] at h
          split at h <;> cases h
    · rw [if_neg e] at h
      cases g with
      | zero =>
        exfalso
        rw [show wayF 0 m = [] from rfl] at h
        split at h <;> cases h
      | succ g =>
        rw [wayF_succ] at h
        by_cases e' : m = 0
        · exfalso
          rw [if_pos e'] at h
          split at h <;> cases h
        · rw [if_neg e'] at h
          by_cases q : n % 2 = 1 <;> by_cases q' : m % 2 = 1 <;> simp only [q, q', if_true, if_false, List.cons.injEq, reduceCtorEq, false_and, true_and] at h
          · have := ih (n / 2) (by omega) g (m / 2) (by omega) h
            omega
          · have := ih (n / 2 - 1) (by omega) g (m / 2 - 1) (by omega) h
            omega

theorem way_inj {n m : Nat} (h : way n = way m) : n = m := way_rec n n (Nat.le_refl _) m m (Nat.le_refl _) h

theorem Tr.getW_setW {α : Type} (v : Option α) : ∀ (p q : List Bool) (t : Tr α), (Tr.setW p v t).getW q = if q = p then v else t.getW q
  | [], [], t => by cases t <;> rfl
  | [], b :: q, t => by cases t <;> cases b <;> simp [Tr.setW, Tr.getW] <;> (cases q <;> rfl)
  | b :: p, [], t => by cases t <;> cases b <;> simp [Tr.setW, Tr.getW]
  | b :: p, c :: q, t => by
    cases t with
    | lf =>
      have h : Tr.getW q (Tr.lf : Tr α) = none := by cases q <;> rfl
      cases b <;> cases c <;> simp only [List.cons.injEq, true_and, reduceCtorEq, false_and, if_false]
      · show Tr.getW q (Tr.setW p v .lf) = _
        rw [Tr.getW_setW v p q .lf, h]; rfl
      · show Tr.getW q .lf = _
        rw [h]; rfl
      · show Tr.getW q .lf = _
        rw [h]; rfl
      · show Tr.getW q (Tr.setW p v .lf) = _
        rw [Tr.getW_setW v p q .lf, h]; rfl
    | nd o l r =>
      cases b <;> cases c <;> simp only [List.cons.injEq, true_and, reduceCtorEq, false_and, if_false]
      · show Tr.getW q (Tr.setW p v r) = _
        rw [Tr.getW_setW v p q r]; rfl
      · rfl
      · rfl
      · show Tr.getW q (Tr.setW p v l) = _
        rw [Tr.getW_setW v p q l]; rfl

theorem Tr.get_set {α : Type} (t : Tr α) (n : Nat) (v : Option α) (m : Nat) : (t.set n v).get m = if m = n then v else t.get m := by
  unfold Tr.get Tr.set
  rw [Tr.getW_setW]
  by_cases h : m = n
  · subst h; simp
  · have : ¬ way m = way n := fun e => h (way_inj e)
    simp [h, this]

theorem Tr.get_lf {α : Type} (n : Nat) : (Tr.lf : Tr α).get n = none := by
  unfold Tr.get; cases way n <;> rfl

/-! Where a row lies: the block, its first cell there, how many cells the block has. -/
structure Blk where
  b : Nat
  d : Nat
  n : Nat

/-- Which blocks stay as they are for good; where rows lie; from which number on rows' numbers are somebody else's. -/
structure Env where
  imm : Nat → Option Obj
  phi : Nat → Option Blk
  top : Nat

def Env.cell (E : Env) (b o : Nat) : Option Value :=
  match E.imm b with
  | some (.cells c _ _) => c[o]?
  | _ => none

 mutual
inductive Conc (E : Env) : AV → Value → Prop
  | bad (v : Value) : Conc E .bad v
  | un : Conc E .un undef
  | b (x : Bool) : Conc E (.b x) (.bool x)
  | i (k : IntKind) (n : Int) : Conc E (.i k n) (.int k n)
  | s (bs : ByteArray) : Conc E (.s (bs.data.toList.map UInt8.toNat)) (.string bs)
  | p (r o : Nat) (B : Blk) (h : E.phi r = some B) : Conc E (.p r o) (.pointer (some ⟨B.b, o + B.d, none⟩))
  | pn : Conc E .pn (.pointer none)
  | gp (g : Nat) : Conc E (.gp g) (.pointer (some ⟨g, 0, none⟩))
  | rp (c : List AV) (b o : Nat) (vs : List Value) (h : ∀ j v, vs[j]? = some v → E.cell b (o + j) = some v) (hc : ConcL E c vs) : Conc E (.rp c) (.pointer (some ⟨b, o, none⟩))
  | slk (r o n z c : Nat) (a : Addr) (hn : n ≤ c) (h : c = 0 ∨ ∃ B, E.phi r = some B ∧ a = ⟨B.b, o + B.d, none⟩) : Conc E (.sl r o n z (some c)) (.slice (some a) n c)
  | slu (r o n z c : Nat) (a : Addr) (hn : n ≤ c) (h : ∃ B, E.phi r = some B ∧ (c = 0 ∨ a = ⟨B.b, o + B.d, none⟩) ∧ o + B.d + c * z = B.n) : Conc E (.sl r o n z none) (.slice (some a) n c)
  | sn : Conc E .sn (.slice none 0 0)
  | rs (c : List AV) (n z k : Nat) (b o : Nat) (vs : List Value) (hn : n ≤ k) (h : ∀ j v, vs[j]? = some v → E.cell b (o + j) = some v) (hc : ConcL E c vs) : Conc E (.rs c n z) (.slice (some ⟨b, o, none⟩) n k)
  | rs0 (c : List AV) (z : Nat) (a : Addr) (k : Nat) : Conc E (.rs c 0 z) (.slice (some a) 0 k)
  | m (r : Nat) (B : Blk) (h : E.phi r = some B) : Conc E (.m r) (.map (some B.b))
  | mn : Conc E .mn (.map none)
  | f (fn : Fn) (x y : List AV) (vx vy : List Value) (hy' : notY fn = true) (hx : ConcL E x vx) (hy : ConcL E y vy) : Conc E (.f fn x y) (.func fn vx.toArray vy.toArray)
  | yi (r : Nat) (B : Blk) (h : E.phi r = some B) : Conc E (.f (.yield r) [] []) (.func (.yield B.b) #[] #[])
  | fn0 : Conc E .fn0 .nilFunc
  | ifc (t : Nat) (v : AV) (u : Value) (h : Conc E v u) : Conc E (.ifc t v) (.iface t u)
  | if0 : Conc E .if0 .nilIface
  | ag (l : List AV) (vs : List Value) (h : ConcL E l vs) : Conc E (.ag l) (.agg vs.toArray)
  | tu (l : List AV) (vs : List Value) (h : ConcL E l vs) : Conc E (.tu l) (.tuple vs.toArray)
  | c (r : Nat) (B : Blk) (h : E.phi r = some B) : Conc E (.c r) (.chan (some B.b))
  | cn : Conc E .cn (.chan none)
inductive ConcL (E : Env) : List AV → List Value → Prop
  | nil : ConcL E [] []
  | cons (v : AV) (l : List AV) (u : Value) (us : List Value) (h : Conc E v u) (t : ConcL E l us) : ConcL E (v :: l) (u :: us)
end

/-- More is known. -/
structure Env.le (E F : Env) : Prop where
  imm : ∀ b o, E.imm b = some o → F.imm b = some o
  phi : ∀ r B, E.phi r = some B → F.phi r = some B

theorem Env.le.refl (E : Env) : E.le E := ⟨fun _ _ h => h, fun _ _ h => h⟩
theorem Env.le.trans {E F G : Env} (h : E.le F) (k : F.le G) : E.le G := ⟨fun b o e => k.imm b o (h.imm b o e), fun r B e => k.phi r B (h.phi r B e)⟩

theorem Env.le.cell {E F : Env} (h : E.le F) {b o : Nat} {v : Value} (e : E.cell b o = some v) : F.cell b o = some v := by
  unfold Env.cell at *
  cases hb : E.imm b with
  | none => simp [hb] at e
  | some x => rw [h.imm b x hb]; rw [hb] at e; exact e

 mutual
theorem Conc.mono {E F : Env} (h : E.le F) : ∀ {v : AV} {u : Value}, Conc E v u → Conc F v u
  | _, _, .bad v => .bad v
  | _, _, .un => .un
  | _, _, .b x => .b x
  | _, _, .i k n => .i k n
  | _, _, .s bs => .s bs
  | _, _, .p r o B e => .p r o B (h.phi r B e)
  | _, _, .pn => .pn
  | _, _, .gp g => .gp g
  | _, _, .rp c b o vs e hc => .rp c b o vs (fun j v hv => h.cell (e j v hv)) (ConcL.mono h hc)
  | _, _, .slk r o n z c a hn e => .slk r o n z c a hn (e.imp id fun ⟨B, h1, h2⟩ => ⟨B, h.phi r B h1, h2⟩)
  | _, _, .slu r o n z c a hn e => .slu r o n z c a hn (e.elim fun B hB => ⟨B, h.phi r B hB.1, hB.2⟩)
  | _, _, .sn => .sn
  | _, _, .rs c n z k b o vs hn e hc => .rs c n z k b o vs hn (fun j v hv => h.cell (e j v hv)) (ConcL.mono h hc)
  | _, _, .rs0 c z a k => .rs0 c z a k
  | _, _, .m r B e => .m r B (h.phi r B e)
  | _, _, .mn => .mn
  | _, _, .f fn x y vx vy hf hx hy => .f fn x y vx vy hf (ConcL.mono h hx) (ConcL.mono h hy)
  | _, _, .yi r B e => .yi r B (h.phi r B e)
  | _, _, .fn0 => .fn0
  | _, _, .ifc t v u e => .ifc t v u (Conc.mono h e)
  | _, _, .if0 => .if0
  | _, _, .ag l vs e => .ag l vs (ConcL.mono h e)
  | _, _, .tu l vs e => .tu l vs (ConcL.mono h e)
  | _, _, .c r B e => .c r B (h.phi r B e)
  | _, _, .cn => .cn
theorem ConcL.mono {E F : Env} (h : E.le F) : ∀ {v : List AV} {u : List Value}, ConcL E v u → ConcL F v u
  | _, _, .nil => .nil
  | _, _, .cons v l u us e t => .cons v l u us (Conc.mono h e) (ConcL.mono h t)
end

section
variable {E : Env}
theorem ConcL.length {l : List AV} {vs : List Value} (h : ConcL E l vs) : l.length = vs.length := by
  induction l generalizing vs with
  | nil => cases h; rfl
  | cons v l ih => cases h with | cons _ _ u us h t => simp [ih t]

theorem ConcL.get {l : List AV} {vs : List Value} (h : ConcL E l vs) : ∀ (j : Nat) (v : AV), l[j]? = some v → ∃ u, vs[j]? = some u ∧ Conc E v u := by
  induction l generalizing vs with
  | nil => intro j v hj; simp at hj
  | cons x l ih =>
    cases h with
    | cons _ _ u us h t =>
      intro j v hj
      cases j with
      | zero => simp at hj; subst hj; exact ⟨u, by simp, h⟩
      | succ j => simpa using ih t j v (by simpa using hj)

theorem ConcL.of_get : ∀ {l : List AV} {vs : List Value}, l.length = vs.length → (∀ (j : Nat) (v : AV) (u : Value), l[j]? = some v → vs[j]? = some u → Conc E v u) → ConcL E l vs
  | [], [], _, _ => .nil
  | v :: l, u :: us, h, k => .cons v l u us (k 0 v u rfl rfl) (ConcL.of_get (by simpa using h) fun j v u hv hu => k (j + 1) v u (by simpa using hv) (by simpa using hu))
  | [], _ :: _, h, _ => by simp at h
  | _ :: _, [], h, _ => by simp at h

theorem ConcL.append {a b : List AV} {x y : List Value} (h : ConcL E a x) (k : ConcL E b y) : ConcL E (a ++ b) (x ++ y) := by
  induction a generalizing x with
  | nil => cases h; exact k
  | cons v l ih => cases h with | cons _ _ u us h t => exact .cons _ _ _ _ h (ih t)

theorem ConcL.take {a : List AV} {x : List Value} (h : ConcL E a x) (n : Nat) : ConcL E (a.take n) (x.take n) := by
  induction a generalizing x n with
  | nil => cases h; simp; exact .nil
  | cons v l ih =>
    cases h with
    | cons _ _ u us h t =>
      cases n with
      | zero => simp; exact .nil
      | succ n => simp; exact .cons _ _ _ _ h (ih t n)

theorem ConcL.drop {a : List AV} {x : List Value} (h : ConcL E a x) (n : Nat) : ConcL E (a.drop n) (x.drop n) := by
  induction a generalizing x n with
  | nil => cases h; simp; exact .nil
  | cons v l ih =>
    cases h with
    | cons _ _ u us h t =>
      cases n with
      | zero => simp; exact .cons _ _ _ _ h t
      | succ n => simpa using ih t n
end

end Go.Ev
