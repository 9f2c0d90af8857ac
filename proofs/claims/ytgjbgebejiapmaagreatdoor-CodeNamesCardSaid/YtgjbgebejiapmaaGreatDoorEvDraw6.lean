/- Regions that draw their order: one operation more. -/
import Derived.Test.YtgjbgebejiapmaaGreatDoorEvDraw5
namespace Go.Ev

noncomputable section

section
variable {P : Program} {S : Self} {nt : Nat} {ops : Array Oper} {bs : List Nat} {R : List Rec} {E E' : Env} {H0 H : Array Obj} {ex : Tmp → Prop} {xb : Option (Nat × Obj)} {D Pd : Nat → Prop} {p q : Nat} {a : Act} {X : St} {β ν : Nat → Nat} {ζ : Nat → Value}

/-- Two slots are two. -/
theorem Settled.dst (hs : Settled ops bs) {i j : Nat} {x y : Oper} (hx : ops[i]? = some x) (hy : ops[j]? = some y) {d : Tmp} (h1 : x.dst = some d) (h2 : y.dst = some d) : i = j := by
  have key : ∀ {i j : Nat} {x y : Oper}, i < j → ops[i]? = some x → ops[j]? = some y → x.dst = some d → y.dst = some d → False := by
    intro i j x y hij hx hy h1 h2
    have := hs.pair i j x y hij hx hy
    unfold pairOk sameDst at this
    rw [h1, h2] at this
    simp at this
  rcases Nat.lt_trichotomy i j with h | h | h
  · exact (key h hx hy h1 h2).elim
  · exact h
  · exact (key h hy hx h2 h1).elim

/-- The first in the text, if the second looks at what it gives, or the other way round, or both touch the memory: their order is settled. -/
theorem Settled.bit (hs : Settled ops bs) {i j : Nat} {x y : Oper} (hij : i < j) (hx : ops[i]? = some x) (hy : ops[j]? = some y)
    (h : (∃ d, x.dst = some d ∧ d ∈ y.looksAt ops) ∨ (∃ d, y.dst = some d ∧ d ∈ x.looksAt ops) ∨ (2 ≤ kind x.op ∧ kind y.op = 3)) : (numAt bs j).testBit i = true := by
  have := hs.pair i j x y hij hx hy
  unfold pairOk at this
  simp only [Bool.and_eq_true, Bool.or_eq_true] at this
  rcases this.2 with hb | ⟨hap, hcl⟩
  · exact hb
  · exfalso
    obtain ⟨e1, e2, e3⟩ := Oper.apart_spec hap
    rcases h with ⟨d, hd, hm⟩ | ⟨d, hd, hm⟩ | ⟨h1, h2⟩
    · exact e1 d hd hm
    · exact e3 d hd hm
    · unfold clash at hcl
      rw [h2] at hcl
      have : Nat.ble 2 (kind x.op) = true := by simpa [Nat.ble_eq] using h1
      rw [this] at hcl
      simp at hcl

/-- What an operation that comes up looks at stands as it did in the text. -/
theorem Inv.sees (hs : Settled ops bs) (hR : Ran P S nt ops R) (h : Inv ops R nt E H0 ex xb D (fun i => q ≤ i) p q a H E' X β ν ζ) (hdown : ∀ j, D j → ∀ i, (numAt bs j).testBit i = true → D i)
    {j : Nat} {o : Oper} (ho : ops[j]? = some o) (hj : ¬ D j) (hrdy : ∀ i, (numAt bs j).testBit i = true → D i) (hxe : ∀ x ∈ o.looksAt ops, ¬ ex x) : ∀ x ∈ o.looksAt ops, Conc E' (tget (recAt R j).t x) (a.tmps.getD x undef) := by
  intro x hx
  have hjn : j < ops.size := (Array.getElem?_eq_some_iff.1 ho).1
  by_cases hex : ∃ (i : Nat) (oi : Oper), ops[i]? = some oi ∧ oi.dst = some x
  · obtain ⟨i, oi, hoi, hdi⟩ := hex
    rcases Nat.lt_trichotomy i j with hij | hij | hij
    · have hb := hs.bit hij hoi ho (.inl ⟨x, hdi, hx⟩)
      have hDi := hrdy i hb
      have hval : tget (recAt R j).t x = (recAt R i).v := ran_slot hR hoi hdi j hij (Nat.le_of_lt hjn) fun i' o' h1 h2 h3 h4 => by
        have := hs.dst hoi h3 hdi h4; omega
      rw [hval]
      refine h.slotV x i oi hDi hoi hdi ?_
      rintro ⟨hA, hqi⟩
      obtain ⟨oi', hoi', hk, hw⟩ := id hA
      rw [hoi] at hoi'; cases hoi'
      rcases h.gap.atq with hq | hK
      · have := hA.lt; omega
      · have hnD := h.gap.after q (Nat.le_refl _) hK
        obtain ⟨oq, hoq, hkq⟩ := hK
        have hne : q ≠ i := by
          rintro rfl
          rw [hoi] at hoq; cases hoq; omega
        have hlt : q < i := by omega
        cases hbit : (numAt bs i).testBit q with
        | true => exact hnD (hdown i hDi q hbit)
        | false => exact hnD (hrdy q (hs.early q i oq oi hlt hoq hoi hkq hk hbit j o ho x hdi hx))
    · subst hij
      have h0 : tget (recAt R i).t x = tget (recAt R 0).t x := ran_slot0 hR i (Nat.le_of_lt hjn) fun i' o' h1 h3 h4 => by
        have := hs.dst hoi h3 hdi h4; omega
      rw [h0]
      refine h.slot0 x (hxe x hx) fun i' o' hd h3 h4 => ?_
      have := hs.dst hoi h3 hdi h4
      subst this
      exact hj hd
    · have h0 : tget (recAt R j).t x = tget (recAt R 0).t x := ran_slot0 hR j (Nat.le_of_lt hjn) fun i' o' h1 h3 h4 => by
        have := hs.dst hoi h3 hdi h4; omega
      rw [h0]
      refine h.slot0 x (hxe x hx) fun i' o' hd h3 h4 => ?_
      have := hs.dst hoi h3 hdi h4
      subst this
      exact hj (hdown i hd j (hs.bit hij ho hoi (.inr (.inl ⟨x, hdi, hx⟩))))
  · have hno : ∀ (i : Nat) (oi : Oper), ops[i]? = some oi → oi.dst ≠ some x := fun i oi h1 h2 => hex ⟨i, oi, h1, h2⟩
    rw [ran_slot0 hR j (Nat.le_of_lt hjn) fun i o _ => hno i o]
    exact h.slot0 x (hxe x hx) fun i o _ => hno i o

/-- One more is done, the memory as it was. -/
theorem Inv.add (hs : Settled ops bs) (hR : Ran P S nt ops R) (h : Inv ops R nt E H0 ex xb D Pd p q a H E' X β ν ζ) {j : Nat} {o : Oper} (ho : ops[j]? = some o) (hj : ¬ D j) (hnK : ¬ KAt ops j) {z : Value}
    (hC : ¬ AAt ops R j → Conc E' (recAt R j).v z)
    (hA : AAt ops R j → Pd j ∧ z = ζ j ∧ H0.size ≤ β j ∧ β j < H.size ∧ ¬ Owned E' X (β j) ∧ (∀ l, (recAt R (j + 1)).st = (recAt R j).st.newCe l → ∀ g, RowOK E' H ⟨β j, 0, ν j⟩ (.ce l g)) ∧
      (∀ F, F.phi (rowAt R j) = some ⟨β j, 0, ν j⟩ → Conc F (recAt R j).v (ζ j)) ∧ (∀ i, D i → AAt ops R i → Pd i → β i ≠ β j) ∧ ∀ b ob, xb = some (b, ob) → β j ≠ b) :
    Inv ops R nt E H0 ex xb (fun i => i = j ∨ D i) Pd p q (a.put o.dst z) H E' X β ν ζ := by
  have hput : ∀ x, (a.put o.dst z).tmps.getD x undef = if o.dst = some x then z else a.tmps.getD x undef := by
    intro x
    cases hd : o.dst with
    | none => simp [Act.put]
    | some d =>
      have hlt : d < nt := by
        have := (hR j o ho).2.1
        rw [hd] at this
        exact putT_lt this
      simp only [Act.put, Array.getD_eq_getD_getElem?]
      by_cases e : d = x
      · subst e
        rw [Array.getElem?_setIfInBounds_self]
        have : d < a.tmps.size := by rw [h.sz]; exact hlt
        simp [this]
      · rw [Array.getElem?_setIfInBounds_ne e, if_neg (fun h => e (Option.some.inj h))]
  have und : ∀ i, AAt ops R i → (¬ ((i = j ∨ D i) ∧ ¬ Pd i) ↔ ¬ (D i ∧ ¬ Pd i)) := fun i ha => by
    constructor
    · rintro hn ⟨hd, hq⟩; exact hn ⟨.inr hd, hq⟩
    · rintro hn ⟨rfl | hd, hq⟩
      · exact hq (hA ha).1
      · exact hn ⟨hd, hq⟩
  refine ⟨h.st, ?_, ?_, ?_, ?_, ⟨h.gap.pq, h.gap.qn, fun i o h1 h2 h3 => .inr (h.gap.before i o h1 h2 h3), h.gap.noK, h.gap.atq, ?_, h.gap.start⟩, h.next, h.freshP, h.lows, ?_, ?_, ?_, ?_, ?_⟩
  · have := h.sz
    cases hd : o.dst with
    | none => simpa [Act.put] using this
    | some d => simpa [Act.put] using this
  · intro x i oi hd hoi hx hn
    rw [hput]
    by_cases e : i = j
    · subst e
      rw [ho] at hoi; cases hoi
      rw [if_pos hx]
      exact hC fun ha => hn ⟨ha, (hA ha).1⟩
    · have : o.dst ≠ some x := fun h' => e (hs.dst hoi ho hx h')
      rw [if_neg this]
      exact h.slotV x i oi (hd.resolve_left e) hoi hx hn
  · intro x i oi hd hoi hx ha hq
    rw [hput]
    by_cases e : i = j
    · subst e
      rw [ho] at hoi; cases hoi
      rw [if_pos hx]
      exact (hA ha).2.1
    · have : o.dst ≠ some x := fun h' => e (hs.dst hoi ho hx h')
      rw [if_neg this]
      exact h.slotP x i oi (hd.resolve_left e) hoi hx ha hq
  · intro x hxe hx
    rw [hput, if_neg (hx j o (.inl rfl) ho)]
    exact h.slot0 x hxe fun i oi hd => hx i oi (.inr hd)
  · rintro i h1 h2 (rfl | hd)
    · exact hnK h2
    · exact h.gap.after i h1 h2 hd
  · intro i h1 h2 ha hn
    exact h.undone i h1 h2 ha ((und i ha).1 hn)
  · intro r hr
    exact h.rest r fun i h1 h2 ha hn => hr i h1 h2 ha ((und i ha).2 hn)
  · rintro i (rfl | hd) ha hq
    · obtain ⟨_, _, v⟩ := hA ha
      exact ⟨v.1, v.2.1, v.2.2.1, v.2.2.2.1, v.2.2.2.2.1⟩
    · exact h.pend i hd ha hq
  · rintro i i' (rfl | hd) ha hq (rfl | hd') ha' hq' e
    · rfl
    · exact absurd e.symm ((hA ha).2.2.2.2.2.2.2.1 i' hd' ha' hq')
    · exact absurd e ((hA ha').2.2.2.2.2.2.2.1 i hd ha hq)
    · exact h.inj i i' hd ha hq hd' ha' hq' e
  · intro b ob hb
    obtain ⟨u1, u2, u3, u4⟩ := h.xtra b ob hb
    refine ⟨u1, u2, u3, ?_⟩
    rintro i (rfl | hd) ha hq
    · exact (hA ha).2.2.2.2.2.2.2.2 b ob hb
    · exact u4 i hd ha hq

/-- More memory, which nobody has. -/
theorem Inv.other (h : Inv ops R nt E H0 ex xb D Pd p q a H E' X β ν ζ) (o : Obj) : Inv ops R nt E H0 ex xb D Pd p q a (H.push o) E' X β ν ζ := by
  refine ⟨h.st.trans (Step.other h.st.rel o), h.sz, h.slotV, h.slotP, h.slot0, h.gap, h.next, h.freshP, h.lows, h.undone, h.rest, fun i hd ha hq => ?_, h.inj, fun b ob hb => ?_⟩
  rotate_left 1
  · obtain ⟨u1, u2, u3, u4⟩ := h.xtra b ob hb
    have : b < H.size := (Array.getElem?_eq_some_iff.1 u2).1
    exact ⟨u1, by rw [← u2]; simp [Array.getElem?_push, Nat.ne_of_lt this], u3, u4⟩
  obtain ⟨v1, v2, v3, v4, v5⟩ := h.pend i hd ha hq
  refine ⟨v1, by simp; omega, v3, fun l hl g => (v4 l hl g).mono (.refl _) ?_, v5⟩
  show (H.push o)[β i]? = H[β i]?
  simp [Array.getElem?_push, Nat.ne_of_lt v2]

/-- The memory made by one that isn't done may be told otherwise. -/
theorem Inv.tell (h : Inv ops R nt E H0 ex xb D Pd p q a H E' X β ν ζ) {j : Nat} (hj : ¬ D j) (b n : Nat) (z : Value) :
    Inv ops R nt E H0 ex xb D Pd p q a H E' X (fun i => if i = j then b else β i) (fun i => if i = j then n else ν i) (fun i => if i = j then z else ζ i) := by
  have ne : ∀ i, D i → i ≠ j := fun i hd e => hj (e ▸ hd)
  refine ⟨h.st, h.sz, h.slotV, fun x i o hd ho hx ha hq => ?_, h.slot0, h.gap, h.next, h.freshP, h.lows, h.undone, h.rest, fun i hd ha hq => ?_, fun i i' hd ha hq hd' ha' hq' e => ?_, fun b ob hb => ?_⟩
  · simp only [if_neg (ne i hd)]
    exact h.slotP x i o hd ho hx ha hq
  · simp only [if_neg (ne i hd)]
    exact h.pend i hd ha hq
  · simp only [if_neg (ne i hd), if_neg (ne i' hd')] at e
    exact h.inj i i' hd ha hq hd' ha' hq' e
  · obtain ⟨u1, u2, u3, u4⟩ := h.xtra b ob hb
    refine ⟨u1, u2, u3, fun i hd ha hq => ?_⟩
    simp only [if_neg (ne i hd)]
    exact u4 i hd ha hq

/-- The next that changes memory. -/
theorem next_K (ops : Array Oper) : ∀ (m p : Nat), p + m = ops.size → ∃ q, p ≤ q ∧ q ≤ ops.size ∧ (∀ i, p ≤ i → i < q → ¬ KAt ops i) ∧ (q = ops.size ∨ KAt ops q)
  | 0, p, h => ⟨p, Nat.le_refl _, by omega, fun i h1 h2 => by omega, .inl (by omega)⟩
  | m + 1, p, h => by
    by_cases hk : KAt ops p
    · exact ⟨p, Nat.le_refl _, by omega, fun i h1 h2 => by omega, .inr hk⟩
    · obtain ⟨q, h1, h2, h3, h4⟩ := next_K ops m (p + 1) (by omega)
      refine ⟨q, by omega, h2, fun i k1 k2 => ?_, h4⟩
      by_cases e : i = p
      · subst e; exact hk
      · exact h3 i (by omega) k2

end

end

end Go.Ev
