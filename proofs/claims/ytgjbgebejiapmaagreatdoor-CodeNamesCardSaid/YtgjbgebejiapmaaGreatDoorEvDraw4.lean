/- Regions that draw their order: the run in the text's order, and where another order stands in it. -/
import Derived.Test.YtgjbgebejiapmaaGreatDoorEvDraw3
namespace Go.Ev

noncomputable section

theorem kind_le (o : Oper) : kind o.op ≤ 3 := by
  unfold kind
  split <;> omega

/-- The memory that an operation of kind 2 makes. -/
theorem kind2_st {P : Program} {S : Self} {t : Tr AV} {o : Oper} {st st' : St} (hk : kind o.op = 2) {v : AV} (he : evOp P S t st o = some (v, st')) : ∃ l, st' = st.newCe l := by
  unfold evOp at he
  cases hop : o.op <;> rw [hop] at hk he <;> first | (simp only [kind] at hk; omega; done) | skip
  case alloc e =>
    have he : allocC st (zeroC P e) = some (v, st') := he
    cases hz : zeroC P e with
    | none => rw [hz] at he; cases he
    | some l => rw [hz] at he; cases he; exact ⟨l, rfl⟩
  case box e x =>
    have he : allocC st (evO t x).cells = some (v, st') := he
    cases hz : (evO t x).cells with
    | none => rw [hz] at he; cases he
    | some l => rw [hz] at he; cases he; exact ⟨l, rfl⟩
  case buildSlice ty len parts =>
    have he : opBuildSlice ty len parts P S t st = some (v, st') := he
    unfold opBuildSlice at he
    split at he
    · cases he
    · rename_i e hel
      cases hz : zeroC P e with
      | none => rw [hz] at he; cases he
      | some z =>
        rw [hz] at he
        obtain ⟨hle, he⟩ := brec he
        cases hf : fill (placeE (szOf P e)) (rep len z) (vals t parts.toList) with
        | none => rw [hf] at he; cases he
        | some l' => rw [hf] at he; cases he; exact ⟨l', rfl⟩
  case call c =>
    exfalso
    obtain ⟨callee, as, ts⟩ := c
    cases callee <;> first | (simp [kind] at hk; done) | skip
    rename_i bb
    cases bb <;> simp [kind] at hk

theorem putT_get {nt : Nat} {t t' : Tr AV} {d : Option Tmp} {v : AV} (h : putT nt t d v = some t') (x : Tmp) : tget t' x = if d = some x then v else tget t x := by
  cases d with
  | none => cases h; simp
  | some d =>
    unfold putT at h
    obtain ⟨hlt, h⟩ := brec h
    rw [AV.seen_eq] at h
    cases h
    unfold tget
    rw [Tr.get_set]
    by_cases e : x = d
    · subst e; simp
    · have : ¬ (some d = some x) := fun h => e (Option.some.inj h).symm
      rw [if_neg e, if_neg this]

theorem putT_lt {nt : Nat} {t t' : Tr AV} {d : Tmp} {v : AV} (h : putT nt t (some d) v = some t') : d < nt := by
  unfold putT at h
  obtain ⟨hlt, h⟩ := brec h
  simpa [Nat.blt_eq] using hlt

section
variable {P : Program} {S : Self} {nt : Nat} {ops : Array Oper} {bs : List Nat} {R : List Rec}

/-- The run in the text's order. -/
def Ran (P : Program) (S : Self) (nt : Nat) (ops : Array Oper) (R : List Rec) : Prop := ∀ i o, ops[i]? = some o → RecOK P S nt ops o (recAt R i) (recAt R (i + 1))

def KAt (ops : Array Oper) (i : Nat) : Prop := ∃ o, ops[i]? = some o ∧ kind o.op = 3
/-- Memory is made there. -/
def AAt (ops : Array Oper) (R : List Rec) (i : Nat) : Prop := ∃ o, ops[i]? = some o ∧ kind o.op = 2 ∧ (recAt R i).w = true

def rowAt (R : List Rec) (i : Nat) : Nat := (recAt R i).st.next

theorem ran_step (hR : Ran P S nt ops R) {i : Nat} {o : Oper} (ho : ops[i]? = some o) (hk : ¬ KAt ops i) (hk4 : kind o.op ≤ 3) :
    (¬ AAt ops R i ∧ (recAt R (i + 1)).st = (recAt R i).st) ∨ (AAt ops R i ∧ ∃ l, (recAt R (i + 1)).st = (recAt R i).st.newCe l) := by
  obtain ⟨h1, h2, h3, h4⟩ := hR i o ho
  cases hw : (recAt R i).w with
  | false =>
    left
    refine ⟨fun ⟨_, _, _, hw'⟩ => ?_, (h3 hw).2⟩
    rw [hw] at hw'; cases hw'
  | true =>
    have he := h4 hw
    have na : kind o.op ≠ 2 → ¬ AAt ops R i := fun hne ⟨o', ho', hk', _⟩ => by
      rw [ho] at ho'; cases ho'; exact hne hk'
    rcases Nat.lt_or_ge (kind o.op) 2 with hlt | hge
    · left
      rcases Nat.lt_or_ge (kind o.op) 1 with h0 | h1
      · obtain ⟨f, hf⟩ := kind0 (P := P) (S := S) (t := (recAt R i).t) (o := o) (by omega)
        rw [hf] at he
        exact ⟨na (by omega), (give_spec he).2⟩
      · have := kind1 (by omega) (Sub.refl _) he
        rw [he] at this
        exact ⟨na (by omega), (Prod.mk.inj (Option.some.inj this)).2⟩
    · right
      have : kind o.op = 2 := by
        rcases Nat.lt_or_ge (kind o.op) 3 with h | h
        · omega
        · exact absurd ⟨o, ho, by omega⟩ hk
      exact ⟨⟨o, ho, this, hw⟩, kind2_st this he⟩

theorem ran_next (hS : SelfUp S) (hR : Ran P S nt ops R) {i : Nat} (hi : i < ops.size) : (recAt R i).st.next ≤ (recAt R (i + 1)).st.next := by
  have ho : ops[i]? = some ops[i] := by simp [hi]
  obtain ⟨h1, h2, h3, h4⟩ := hR i _ ho
  cases hw : (recAt R i).w with
  | false => rw [(h3 hw).2]; exact Nat.le_refl _
  | true => exact up_op hS _ _ (h4 hw)

theorem ran_mono (hS : SelfUp S) (hR : Ran P S nt ops R) {i j : Nat} (hij : i ≤ j) (hj : j ≤ ops.size) : (recAt R i).st.next ≤ (recAt R j).st.next := by
  induction j with
  | zero => have : i = 0 := by omega
            subst this; exact Nat.le_refl _
  | succ j ih =>
    rcases Nat.lt_or_ge i (j + 1) with h | h
    · exact Nat.le_trans (ih (by omega) (by omega)) (ran_next hS hR (by omega))
    · have : i = j + 1 := by omega
      subst this; exact Nat.le_refl _

theorem row_lt (hS : SelfUp S) (hR : Ran P S nt ops R) {i j : Nat} (ha : AAt ops R i) (hij : i < j) (hj : j ≤ ops.size) : rowAt R i < (recAt R j).st.next := by
  obtain ⟨o, ho, hk, hw⟩ := ha
  obtain ⟨h1, h2, h3, h4⟩ := hR i o ho
  obtain ⟨l, hl⟩ := kind2_st hk (h4 hw)
  have := ran_mono hS hR (i := i + 1) (j := j) (by omega) hj
  rw [hl] at this
  have e : ((recAt R i).st.newCe l).next = (recAt R i).st.next + 1 := rfl
  unfold rowAt
  omega

theorem row_inj (hS : SelfUp S) (hR : Ran P S nt ops R) {i j : Nat} (ha : AAt ops R i) (hb : AAt ops R j) (h : rowAt R i = rowAt R j) : i = j := by
  have lt : ∀ {i}, AAt ops R i → i < ops.size := fun ⟨o, ho, _⟩ => (Array.getElem?_eq_some_iff.1 ho).1
  rcases Nat.lt_trichotomy i j with hij | hij | hij
  · have := row_lt hS hR ha hij (Nat.le_of_lt (lt hb)); unfold rowAt at *; omega
  · exact hij
  · have := row_lt hS hR hb hij (Nat.le_of_lt (lt ha)); unfold rowAt at *; omega

/-- Between p and m nothing changes but what is made. -/
theorem ran_gap (hS : SelfUp S) (hR : Ran P S nt ops R) {p : Nat} : ∀ (m : Nat), p ≤ m → m ≤ ops.size → (∀ i, p ≤ i → i < m → ¬ KAt ops i) →
    (∀ r, (∀ i, p ≤ i → i < m → AAt ops R i → r ≠ rowAt R i) → (recAt R m).st.get r = (recAt R p).st.get r ∧ (recAt R m).st.live.get r = (recAt R p).st.live.get r) ∧
    (∀ i, p ≤ i → i < m → AAt ops R i → ∀ l, (recAt R (i + 1)).st = (recAt R i).st.newCe l → (recAt R m).st.get (rowAt R i) = some (.ce l (rowAt R i)) ∧ (recAt R m).st.live.get (rowAt R i) = some [rowAt R i]) := by
  intro m
  induction m with
  | zero =>
    intro hp _ _
    have : p = 0 := by omega
    subst this
    exact ⟨fun _ _ => ⟨rfl, rfl⟩, fun i _ h => by omega⟩
  | succ m ih =>
    intro hp hm hno
    rcases Nat.lt_or_ge p (m + 1) with hlt | hge
    · obtain ⟨ih1, ih2⟩ := ih (by omega) (by omega) (fun i h1 h2 => hno i h1 (by omega))
      have ho : ops[m]? = some ops[m] := by simp [show m < ops.size by omega]
      rcases ran_step hR ho (hno m (by omega) (by omega)) (kind_le _) with ⟨hna, hst⟩ | ⟨ha, l, hst⟩
      · rw [hst]
        refine ⟨fun r hr => ih1 r fun i h1 h2 => hr i h1 (by omega), fun i h1 h2 hai => ?_⟩
        have : i ≠ m := by rintro rfl; exact hna hai
        exact ih2 i h1 (by omega) hai
      · have hget : ∀ r, (recAt R (m + 1)).st.get r = if r = rowAt R m then some (.ce l (rowAt R m)) else (recAt R m).st.get r := by
          intro r; rw [hst, St.get_newCe]; rfl
        have hlive : ∀ g, (recAt R (m + 1)).st.live.get g = if g = rowAt R m then some [rowAt R m] else (recAt R m).st.live.get g := by
          intro g; rw [hst]; simp only [St.newCe, Tr.get_set]; rfl
        refine ⟨fun r hr => ?_, fun i h1 h2 hai l' hl' => ?_⟩
        · have hne := hr m (by omega) (by omega) ha
          rw [hget, hlive, if_neg hne, if_neg hne]
          exact ih1 r fun i h1 h2 => hr i h1 (by omega)
        · by_cases e : i = m
          · subst e
            rw [hget, hlive, if_pos rfl, if_pos rfl]
            rw [hst] at hl'
            have := St.get_newCe (recAt R i).st l (recAt R i).st.next
            rw [hl', St.get_newCe, if_pos rfl, if_pos rfl] at this
            cases this
            exact ⟨rfl, rfl⟩
          · have hlt' : rowAt R i < rowAt R m := row_lt hS hR hai (by omega) (by omega)
            have hne : rowAt R i ≠ rowAt R m := by omega
            rw [hget, hlive, if_neg hne, if_neg hne]
            exact ih2 i h1 (by omega) hai l' hl'
    · have : p = m + 1 := by omega
      subst this
      exact ⟨fun _ _ => ⟨rfl, rfl⟩, fun i _ h => by omega⟩

/-- What a slot holds, in the text. -/
theorem ran_slot0 (hR : Ran P S nt ops R) {x : Tmp} : ∀ (j : Nat), j ≤ ops.size → (∀ i o, i < j → ops[i]? = some o → o.dst ≠ some x) → tget (recAt R j).t x = tget (recAt R 0).t x := by
  intro j
  induction j with
  | zero => intros; rfl
  | succ j ih =>
    intro hj hno
    have ho : ops[j]? = some ops[j] := by simp [show j < ops.size by omega]
    obtain ⟨h1, h2, h3, h4⟩ := hR j _ ho
    rw [putT_get h2 x, if_neg (hno j _ (by omega) ho)]
    exact ih (by omega) fun i o h => hno i o (by omega)

theorem ran_slot (hR : Ran P S nt ops R) {x : Tmp} {i : Nat} {o : Oper} (ho : ops[i]? = some o) (hd : o.dst = some x) : ∀ (j : Nat), i < j → j ≤ ops.size → (∀ i' o', i < i' → i' < j → ops[i']? = some o' → o'.dst ≠ some x) →
    tget (recAt R j).t x = (recAt R i).v := by
  intro j
  induction j with
  | zero => intro h; omega
  | succ j ih =>
    intro hij hj hno
    have hoj : ops[j]? = some ops[j] := by simp [show j < ops.size by omega]
    obtain ⟨h1, h2, h3, h4⟩ := hR j _ hoj
    rw [putT_get h2 x]
    by_cases e : i = j
    · subst e
      rw [ho] at hoj
      cases hoj
      rw [if_pos hd]
    · rw [if_neg (hno j _ (by omega) (by omega) hoj)]
      exact ih (by omega) (by omega) fun i' o' h1 h2 => hno i' o' h1 (by omega)

end

end

end Go.Ev
