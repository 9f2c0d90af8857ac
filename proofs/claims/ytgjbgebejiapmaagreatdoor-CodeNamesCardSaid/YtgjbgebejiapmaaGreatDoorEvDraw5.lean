/- Regions that draw their order: what stands while they run. -/
import Derived.Test.YtgjbgebejiapmaaGreatDoorEvDraw4
namespace Go.Ev

noncomputable section

/-- Where the run stands between operations that change memory: those ahead of p are done, none from q on. -/
structure Gap (ops : Array Oper) (D : Nat → Prop) (p q : Nat) : Prop where
  pq : p ≤ q
  qn : q ≤ ops.size
  before : ∀ i o, i < p → ops[i]? = some o → 2 ≤ kind o.op → D i
  noK : ∀ i, p ≤ i → i < q → ¬ KAt ops i
  atq : q = ops.size ∨ KAt ops q
  after : ∀ i, q ≤ i → KAt ops i → ¬ D i
  start : p = 0 ∨ ∃ k, p = k + 1 ∧ KAt ops k

/-- D: done; Pd: made, but no row yet. -/
structure Inv (ops : Array Oper) (R : List Rec) (nt : Nat) (E : Env) (H0 : Array Obj) (ex : Tmp → Prop) (xb : Option (Nat × Obj)) (D Pd : Nat → Prop) (p q : Nat) (a : Act) (H : Array Obj) (E' : Env) (X : St) (β ν : Nat → Nat) (ζ : Nat → Value) : Prop where
  st : Step E E' H0 H (recAt R 0).st X
  sz : a.tmps.size = nt
  slotV : ∀ x i o, D i → ops[i]? = some o → o.dst = some x → ¬ (AAt ops R i ∧ Pd i) → Conc E' (recAt R i).v (a.tmps.getD x undef)
  slotP : ∀ x i o, D i → ops[i]? = some o → o.dst = some x → AAt ops R i → Pd i → a.tmps.getD x undef = ζ i
  slot0 : ∀ x, ¬ ex x → (∀ i o, D i → ops[i]? = some o → o.dst ≠ some x) → Conc E' (tget (recAt R 0).t x) (a.tmps.getD x undef)
  gap : Gap ops D p q
  next : X.next = (recAt R q).st.next
  freshP : ∀ r, (recAt R p).st.next ≤ r → (recAt R p).st.get r = none ∧ (recAt R p).st.live.get r = none
  lows : ∀ g al, (recAt R p).st.live.get g = some al → ∀ x ∈ al, x < (recAt R p).st.next
  undone : ∀ i, p ≤ i → i < q → AAt ops R i → ¬ (D i ∧ ¬ Pd i) → X.get (rowAt R i) = none ∧ X.live.get (rowAt R i) = none ∧ E'.phi (rowAt R i) = none
  rest : ∀ r, (∀ i, p ≤ i → i < q → AAt ops R i → ¬ (D i ∧ ¬ Pd i) → r ≠ rowAt R i) → X.get r = (recAt R q).st.get r ∧ X.live.get r = (recAt R q).st.live.get r
  pend : ∀ i, D i → AAt ops R i → Pd i → H0.size ≤ β i ∧ β i < H.size ∧ ¬ Owned E' X (β i) ∧ (∀ l, (recAt R (i + 1)).st = (recAt R i).st.newCe l → ∀ g, RowOK E' H ⟨β i, 0, ν i⟩ (.ce l g)) ∧
    ∀ F, F.phi (rowAt R i) = some ⟨β i, 0, ν i⟩ → Conc F (recAt R i).v (ζ i)
  inj : ∀ i i', D i → AAt ops R i → Pd i → D i' → AAt ops R i' → Pd i' → β i = β i' → i = i'
  xtra : ∀ b ob, xb = some (b, ob) → H0.size ≤ b ∧ H[b]? = some ob ∧ ¬ Owned E' X b ∧ ∀ i, D i → AAt ops R i → Pd i → β i ≠ b

section
variable {P : Program} {S : Self} {nt : Nat} {ops : Array Oper} {bs : List Nat} {R : List Rec} {E E' : Env} {H0 H : Array Obj} {ex : Tmp → Prop} {xb : Option (Nat × Obj)} {D Pd : Nat → Prop} {p q : Nat} {a : Act} {X : St} {β ν : Nat → Nat} {ζ : Nat → Value}

theorem Inv.congr {Pd' : Nat → Prop} (h : Inv ops R nt E H0 ex xb D Pd p q a H E' X β ν ζ) (hp : ∀ i, D i → AAt ops R i → (Pd i ↔ Pd' i)) : Inv ops R nt E H0 ex xb D Pd' p q a H E' X β ν ζ := by
  have und : ∀ i, AAt ops R i → (¬ (D i ∧ ¬ Pd' i) ↔ ¬ (D i ∧ ¬ Pd i)) := fun i ha => by
    constructor
    · rintro hn ⟨hd, hq⟩; exact hn ⟨hd, fun h => hq ((hp i hd ha).2 h)⟩
    · rintro hn ⟨hd, hq⟩; exact hn ⟨hd, fun h => hq ((hp i hd ha).1 h)⟩
  refine ⟨h.st, h.sz, ?_, ?_, h.slot0, h.gap, h.next, h.freshP, h.lows, ?_, ?_, ?_, ?_, fun b ob hb => ⟨(h.xtra b ob hb).1, (h.xtra b ob hb).2.1, (h.xtra b ob hb).2.2.1, fun i hd ha hq => (h.xtra b ob hb).2.2.2 i hd ha ((hp i hd ha).2 hq)⟩⟩
  · intro x i o hd ho hx hn
    exact h.slotV x i o hd ho hx fun ⟨ha, hq⟩ => hn ⟨ha, (hp i hd ha).1 hq⟩
  · intro x i o hd ho hx ha hq
    exact h.slotP x i o hd ho hx ha ((hp i hd ha).2 hq)
  · intro i h1 h2 ha hn
    exact h.undone i h1 h2 ha ((und i ha).1 hn)
  · intro r hr
    exact h.rest r fun i h1 h2 ha hn => hr i h1 h2 ha ((und i ha).2 hn)
  · intro i hd ha hq
    exact h.pend i hd ha ((hp i hd ha).2 hq)
  · intro i i' hd ha hq hd' ha' hq'
    exact h.inj i i' hd ha ((hp i hd ha).2 hq) hd' ha' ((hp i' hd' ha').2 hq')

theorem AAt.lt {i : Nat} (h : AAt ops R i) : i < ops.size := by
  obtain ⟨o, ho, _⟩ := h
  exact (Array.getElem?_eq_some_iff.1 ho).1

/-- What was made becomes a row. -/
theorem Inv.reg (hr0 : Rel E H0 (recAt R 0).st) (hS : SelfUp S) (hR : Ran P S nt ops R) (h : Inv ops R nt E H0 ex xb D Pd p q a H E' X β ν ζ) {i : Nat} (hpi : p ≤ i) (hiq : i < q) (hA : AAt ops R i) (hD : D i) (hP : Pd i) :
    ∃ E'' X', Inv ops R nt E H0 ex xb D (fun x => Pd x ∧ x ≠ i) p q a H E'' X' β ν ζ ∧ E'.le E'' := by
  obtain ⟨k1, k2, k3, k4, k5⟩ := h.pend i hD hA hP
  obtain ⟨u1, u2, u3⟩ := h.undone i hpi hiq hA (fun ⟨_, hn⟩ => hn hP)
  obtain ⟨o, ho, hk, hw⟩ := id hA
  obtain ⟨l, hl⟩ := kind2_st hk ((hR i o ho).2.2.2 hw)
  let r := rowAt R i
  let X' : St := ⟨X.rows.set r (some (.ce l r)), X.live.set r (some [r]), X.next⟩
  have hget : ∀ x, X'.get x = if x = r then some (.ce l r) else X.get x := fun x => by simp [X', St.get, Tr.get_set]
  have hlive : ∀ g, X'.live.get g = if g = r then some [r] else X.live.get g := fun g => by simp [X', Tr.get_set]
  obtain ⟨g1, g2⟩ := ran_gap hS hR q h.gap.pq h.gap.qn h.gap.noK
  have hrq : r < (recAt R q).st.next := row_lt hS hR hA hiq h.gap.qn
  have hpr : (recAt R p).st.next ≤ r := ran_mono hS hR hpi (Nat.le_of_lt hA.lt)
  have himm : E.imm (β i) = none := by
    cases hi : E.imm (β i) with
    | none => rfl
    | some o => have := hr0.imm_lt hi; omega
  have hmem : ∀ g al, X.live.get g = some al → r ∉ al := by
    intro g al hg hm
    -- is it one of the rows made in this gap?
    by_cases hex : ∃ i', p ≤ i' ∧ i' < q ∧ AAt ops R i' ∧ g = rowAt R i'
    · obtain ⟨i', h1, h2, h3, rfl⟩ := hex
      by_cases hun : D i' ∧ ¬ Pd i'
      · have hne : i' ≠ i := by rintro rfl; exact hun.2 hP
        have := (h.rest (rowAt R i') (fun i'' e1 e2 e3 e4 e5 => by
          have := row_inj hS hR h3 e3 e5; subst this; exact e4 hun)).2
        obtain ⟨o', ho', hk', hw'⟩ := id h3
        obtain ⟨l', hl'⟩ := kind2_st hk' ((hR i' o' ho').2.2.2 hw')
        rw [this, (g2 i' h1 h2 h3 l' hl').2] at hg
        cases hg
        simp at hm
        exact hne (row_inj hS hR h3 hA hm.symm)
      · rw [(h.undone i' h1 h2 h3 hun).2.1] at hg; cases hg
    · have hn : ∀ i', p ≤ i' → i' < q → AAt ops R i' → g ≠ rowAt R i' := fun i' h1 h2 h3 e => hex ⟨i', h1, h2, h3, e⟩
      rw [(h.rest g fun i' h1 h2 h3 _ => hn i' h1 h2 h3).2, (g1 g hn).2] at hg
      have := h.lows g al hg r hm
      omega
  have hst := Step.reg (X' := X') (row := .ce l r) (B := ⟨β i, 0, ν i⟩) h.st u3 u1 (by rw [h.next]; exact hrq) hmem u2 hget rfl (fun g => by
      rw [hlive]
      by_cases e : g = r
      · right; exact ⟨e, by rw [if_pos e]⟩
      · left; rw [if_neg e]) (fun l' g e => by cases e; rfl) k1 himm k3 (k4 l hl r)
  have hle : E'.le (E'.bind r ⟨β i, 0, ν i⟩) := Env.le_bind u3
  have hun : ∀ b, b ≠ β i → ¬ Owned E' X b → ¬ Owned (E'.bind r ⟨β i, 0, ν i⟩) X' b := by
    rintro b hb hno ⟨x, y, C, hx, hC, hCb⟩
    by_cases e : x = r
    · subst e
      rw [Env.bind_self] at hC
      cases hC
      exact hb hCb.symm
    · rw [Env.bind_ne e] at hC
      refine hno ⟨x, y, C, ?_, hC, hCb⟩
      unfold St.alive at hx ⊢
      rw [hget, if_neg e] at hx
      cases hg : X.get x with
      | none => rw [hg] at hx; exact hx
      | some w =>
        rw [hg] at hx
        cases w with
        | ce lx gx =>
          simp only at hx ⊢
          rw [hlive] at hx
          by_cases eg : gx = r
          · rw [if_pos eg] at hx
            have : mem x [r] = false := by
              cases hm : mem x [r] with
              | false => rfl
              | true => rw [mem_iff] at hm; simp at hm; exact absurd hm e
            simp [this] at hx
          · rw [if_neg eg] at hx; exact hx
        | mp => exact hx
        | si => exact hx
        | mi => exact hx
        | lp => exact hx
        | mu => exact hx
        | ch => exact hx
        | ty => exact hx
  refine ⟨_, X', ⟨hst, h.sz, ?_, ?_, ?_, h.gap, h.next, h.freshP, h.lows, ?_, ?_, ?_, ?_, fun b ob hb => ⟨(h.xtra b ob hb).1, (h.xtra b ob hb).2.1, hun b (fun e => (h.xtra b ob hb).2.2.2 i hD hA hP e.symm) (h.xtra b ob hb).2.2.1, fun i' hd ha hq => (h.xtra b ob hb).2.2.2 i' hd ha hq.1⟩⟩, hle⟩
  · intro x i' o' hd ho' hx hn
    by_cases e : i' = i
    · subst e
      rw [h.slotP x i' o' hd ho' hx hA hP]
      exact k5 _ Env.bind_self
    · exact (h.slotV x i' o' hd ho' hx fun ⟨ha, hq⟩ => hn ⟨ha, hq, e⟩).mono hle
  · intro x i' o' hd ho' hx ha hq
    exact h.slotP x i' o' hd ho' hx ha hq.1
  · intro x hxe hx
    exact (h.slot0 x hxe hx).mono hle
  · intro i' h1 h2 ha hn
    have hne : i' ≠ i := by rintro rfl; exact hn ⟨hD, fun ⟨_, e⟩ => e rfl⟩
    have hrne : rowAt R i' ≠ r := fun e => hne (row_inj hS hR ha hA e)
    obtain ⟨v1, v2, v3⟩ := h.undone i' h1 h2 ha (fun ⟨hd, hq⟩ => hn ⟨hd, fun ⟨hq', _⟩ => hq hq'⟩)
    exact ⟨by rw [hget, if_neg hrne]; exact v1, by rw [hlive, if_neg hrne]; exact v2, by rw [Env.bind_ne hrne]; exact v3⟩
  · intro x hx
    by_cases e : x = r
    · subst e
      rw [hget, hlive, if_pos rfl, if_pos rfl]
      have := g2 i hpi hiq hA l hl
      exact ⟨this.1.symm, this.2.symm⟩
    · rw [hget, hlive, if_neg e, if_neg e]
      refine h.rest x fun i' h1 h2 ha hn => ?_
      by_cases e' : i' = i
      · subst e'; exact e
      · exact hx i' h1 h2 ha fun ⟨hd, hq⟩ => hn ⟨hd, fun hq' => hq ⟨hq', e'⟩⟩
  · intro i' hd ha hq
    obtain ⟨v1, v2, v3, v4, v5⟩ := h.pend i' hd ha hq.1
    have hb : β i' ≠ β i := fun e => hq.2 (h.inj i' i hd ha hq.1 hD hA hP e)
    exact ⟨v1, v2, hun _ hb v3, fun l' hl' g => (v4 l' hl' g).mono hle rfl, v5⟩
  · intro i1 i2 hd ha hq hd' ha' hq'
    exact h.inj i1 i2 hd ha hq.1 hd' ha' hq'.1

/-- All that was made up to c becomes rows. -/
theorem Inv.regs (hr0 : Rel E H0 (recAt R 0).st) (hS : SelfUp S) (hR : Ran P S nt ops R) : ∀ (c : Nat), p ≤ c → c ≤ q → ∀ {E' : Env} {X : St}, Inv ops R nt E H0 ex xb D (fun i => p ≤ i) p q a H E' X β ν ζ →
    ∃ E'' X', Inv ops R nt E H0 ex xb D (fun i => c ≤ i) p q a H E'' X' β ν ζ ∧ E'.le E'' := by
  intro c
  induction c with
  | zero =>
    intro hp _ E' X h
    have : p = 0 := by omega
    subst this
    exact ⟨E', X, h, .refl _⟩
  | succ c ih =>
    intro hp hq E' X h
    rcases Nat.lt_or_ge p (c + 1) with hlt | hge
    · obtain ⟨E1, X1, h1, l1⟩ := ih (by omega) (by omega) h
      by_cases hc : AAt ops R c ∧ D c
      · obtain ⟨E2, X2, h2, l2⟩ := h1.reg hr0 hS hR (i := c) (by omega) (by omega) hc.1 hc.2 (Nat.le_refl c)
        exact ⟨E2, X2, h2.congr fun i _ _ => ⟨fun ⟨u, v⟩ => by omega, fun u => ⟨by omega, by omega⟩⟩, l1.trans l2⟩
      · refine ⟨E1, X1, h1.congr fun i hd ha => ⟨fun u => ?_, fun u => by omega⟩, l1⟩
        have : i ≠ c := by rintro rfl; exact hc ⟨ha, hd⟩
        omega
    · have : p = c + 1 := by omega
      subst this
      exact ⟨E', X, h, .refl _⟩

end

end

end Go.Ev
