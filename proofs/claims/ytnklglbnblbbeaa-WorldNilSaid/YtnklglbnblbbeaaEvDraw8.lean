/- Regions that draw their order: from the first operation to the last. -/
import Derived.Test.YtnklglbnblbbeaaEvDraw7
namespace Go.Ev

noncomputable section

theorem leq_eq' : ∀ {a b : List Nat}, leq a b = true → a = b
  | [], [], _ => rfl
  | x :: a, y :: b, h => by
    have h' : @Bool.rec (fun _ => Bool) false (leq a b) (Nat.beq x y) = true := h
    cases hb : Nat.beq x y with
    | false => rw [hb] at h'; cases h'
    | true =>
      rw [hb] at h'
      have e : x = y := by simpa [nbeq] using hb
      rw [e, leq_eq' h']
  | [], _ :: _, h => by cases h
  | _ :: _, [], h => by cases h

theorem ieq_eq2 {a b : Int} (h : ieq a b = true) : a = b := by
  cases a <;> cases b <;> simp [ieq, nbeq] at h <;> first | (rw [h]) | cases h

theorem all2_eq {f : AV → AV → Bool} (hf : ∀ a b, f a b = true → a = b) : ∀ {l m : List AV}, all2 f l m = true → l = m
  | [], [], _ => rfl
  | a :: l, b :: m, h => by
    unfold all2 at h
    cases hb : f a b with
    | false => rw [hb] at h; cases h
    | true => rw [hb] at h; rw [hf a b hb, all2_eq hf h]
  | [], _ :: _, h => by cases h
  | _ :: _, [], h => by cases h

theorem sameCap_eq {a b : Option Nat} (h : sameCap a b = true) : a = b := by
  cases a <;> cases b <;> simp [sameCap, nbeq] at h <;> first | rfl | (rw [h])

theorem avEq_eq : ∀ (n : Nat) (a b : AV), avEq n a b = true → a = b := by
  intro n
  induction n with
  | zero => intro a b h; cases h
  | succ n ih =>
    intro a b h
    unfold avEq at h
    split at h
    · rfl
    · rename_i x y
      cases x <;> cases y <;> first | rfl | cases h
    · simp only [Bool.and_eq_true] at h
      have h1 := of_decide_eq_true h.1
      rw [h1, ieq_eq2 h.2]
    · rw [leq_eq' h]
    · simp only [Bool.and_eq_true, nbeq, decide_eq_true_eq] at h
      rw [h.1, h.2]
    · rfl
    · simp only [nbeq, decide_eq_true_eq] at h
      rw [h]
    · rw [all2_eq ih h]
    · simp only [Bool.and_eq_true, nbeq, decide_eq_true_eq] at h
      rw [h.1, h.2.1, h.2.2.1, h.2.2.2.1, sameCap_eq h.2.2.2.2]
    · rfl
    · simp only [Bool.and_eq_true, nbeq, decide_eq_true_eq] at h
      rw [h.1, h.2.1, all2_eq ih h.2.2]
    · simp only [nbeq, decide_eq_true_eq] at h
      rw [h]
    · rfl
    · simp only [nbeq, decide_eq_true_eq] at h
      rw [h]
    · rfl
    · simp only [Bool.and_eq_true, nbeq, decide_eq_true_eq] at h
      rw [h.1, ih _ _ h.2]
    · rfl
    · rw [all2_eq ih h]
    · rw [all2_eq ih h]
    · cases h

section
variable {P : Program} {S : Self} {nt : Nat} {ops : Array Oper} {bs : List Nat} {R : List Rec} {E : Env} {H0 : Array Obj}

theorem least_undone {D : Nat → Prop} : ∀ (n : Nat), (∃ i, i < n ∧ ¬ D i) → ∃ i, i < n ∧ ¬ D i ∧ ∀ i', i' < i → D i'
  | 0, ⟨i, h, _⟩ => by omega
  | n + 1, h => by
    by_cases h' : ∃ i, i < n ∧ ¬ D i
    · obtain ⟨i, h1, h2, h3⟩ := least_undone n h'
      exact ⟨i, by omega, h2, h3⟩
    · obtain ⟨i, h1, h2⟩ := h
      have : i = n := by
        rcases Nat.lt_or_ge i n with h3 | h3
        · exact absurd ⟨i, h3, h2⟩ h'
        · omega
      subst this
      exact ⟨i, h1, h2, fun i' hi' => Classical.byContradiction fun hn => h' ⟨i', hi', hn⟩⟩

/-- Whatever the tape says, the region comes to what the text's order comes to. -/
theorem sched (hS : SelfOK P S) (hs : Settled ops bs) (hR : Ran P S nt ops R) (hL : Looks P S ops bs R) (hr0 : Rel E H0 (recAt R 0).st) (hn : (recAt R ops.size).st.next ≤ E.top) {b : Frame} {k : List Item} :
    ∀ (fuel t : Nat) (listed : Array Bool) (L : List Nat), listed.size = ops.size → L.Nodup → L.length = fuel → (∀ i, i ∈ L ↔ i < ops.size ∧ listed.getD i false = false) →
      (∀ j, listed.getD j false = true → ∀ i, (numAt bs j).testBit i = true → listed.getD i false = true) →
      ∀ {p q : Nat} {a : Act} {w : World} {E' : Env} {X : St} {β ν : Nat → Nat} {ζ : Nat → Value}, Inv ops R nt E H0 (fun _ => False) none (fun i => listed.getD i false = true) (fun i => q ≤ i) p q a w.heap E' X β ν ζ →
      ∃ E'' a' w', Step E E'' H0 (World.heap w') (recAt R 0).st (recAt R ops.size).st ∧ ConcT E'' nt (recAt R ops.size).t a'.tmps ∧ a'.defers = a.defers ∧ (w'.os = w.os ∧ w'.output = w.output) ∧
        ∀ cs, Steps P (lone (b.atR a (.inRegion ops (Region.linearise.go .any ops fuel t listed []) :: k)) cs w) (lone (b.atR a' k) cs w') := by
  intro fuel
  induction fuel with
  | zero =>
    intro t listed L hsz hnd hlen hL' hdown p q a w E' X β ν ζ h
    have hnil : L = [] := List.eq_nil_of_length_eq_zero hlen
    have hall : ∀ i, i < ops.size → listed.getD i false = true := by
      intro i hi
      cases hc : listed.getD i false with
      | true => rfl
      | false =>
        have := (hL' i).2 ⟨hi, hc⟩
        rw [hnil] at this
        cases this
    have hq : q = ops.size := by
      rcases h.gap.atq with h1 | h1
      · exact h1
      · have hlt : q < ops.size := by obtain ⟨o, ho, _⟩ := h1; exact (Array.getElem?_eq_some_iff.1 ho).1
        exact absurd (hall q hlt) (h.gap.after q (Nat.le_refl _) h1)
    subst hq
    have hX : ∀ r, X.get r = (recAt R ops.size).st.get r ∧ X.live.get r = (recAt R ops.size).st.live.get r := fun r =>
      h.rest r fun i h1 h2 ha hno => absurd ⟨hall i h2, by omega⟩ hno
    refine ⟨E', a, w, h.st.ext (fun r => (hX r).1.symm) (fun g => (hX g).2.symm) (by rw [h.next]; exact Nat.le_refl _), ⟨h.sz, fun x => ?_⟩, rfl, ⟨rfl, rfl⟩, fun cs => ?_⟩
    · by_cases hex : ∃ (i : Nat) (oi : Oper), ops[i]? = some oi ∧ oi.dst = some x
      · obtain ⟨i, oi, hoi, hdi⟩ := hex
        have hin : i < ops.size := (Array.getElem?_eq_some_iff.1 hoi).1
        have hval : tget (recAt R ops.size).t x = (recAt R i).v := ran_slot hR hoi hdi ops.size hin (Nat.le_refl _) fun i' o' h1 h2 h3 h4 => by
          have := hs.dst hoi h3 hdi h4; omega
        rw [hval]
        exact h.slotV x i oi (hall i hin) hoi hdi fun ⟨_, hq⟩ => by omega
      · have hno : ∀ (i : Nat) (oi : Oper), ops[i]? = some oi → oi.dst ≠ some x := fun i oi h1 h2 => hex ⟨i, oi, h1, h2⟩
        rw [ran_slot0 hR ops.size (Nat.le_refl _) fun i o _ => hno i o]
        exact h.slot0 x (fun h => h) fun i o _ => hno i o
    · exact Steps.one stepR_region_end
  | succ fuel ih =>
    intro t listed L hsz hnd hlen hL' hdown p q a w E' X β ν ζ h
    -- something may come up
    have hex : ∃ i, i < ops.size ∧ ¬ listed.getD i false = true := by
      cases hLL : L with
      | nil => rw [hLL] at hlen; cases hlen
      | cons x l =>
        have := (hL' x).1 (by rw [hLL]; exact List.mem_cons_self ..)
        exact ⟨x, this.1, by rw [this.2]; simp⟩
    obtain ⟨i0, hi0, hu0, hall0⟩ := least_undone (D := fun i => listed.getD i false = true) ops.size hex
    have hr0' : i0 ∈ Region.ready .any ops listed := by
      refine mem_ready.2 ⟨?_, ops[i0], by simp [hi0], fun e he hb => hall0 e.on (hs.edge i0 _ (by simp [hi0]) e he hb)⟩
      have : i0 < listed.size := by omega
      simp only [Array.getD_eq_getD_getElem?] at hu0 ⊢
      simp [this] at hu0 ⊢
      exact hu0
    simp only [Region.linearise.go]
    change ∃ E'' a' w', _ ∧ _ ∧ _ ∧ _ ∧ ∀ cs, Steps P (lone (b.atR a (.inRegion ops (match (Region.ready .any ops listed)[t % (Region.ready .any ops listed).length]? with
      | some i => Region.linearise.go .any ops fuel (t / (Region.ready .any ops listed).length) (listed.setIfInBounds i true) [i]
      | none => [].reverse) :: k)) cs w) _
    cases hi : (Region.ready .any ops listed)[t % (Region.ready .any ops listed).length]? with
    | none =>
      exfalso
      cases hr : Region.ready .any ops listed with
      | nil => rw [hr] at hr0'; cases hr0'
      | cons x xs =>
        rw [hr] at hi
        have hlt : t % (x :: xs).length < (x :: xs).length := Nat.mod_lt _ (by simp)
        simp at hi
        simp at hlt
        omega
    | some j =>
      have hjr : j ∈ Region.ready .any ops listed := List.mem_of_getElem? hi
      obtain ⟨hj0, o, ho, hal⟩ := mem_ready.1 hjr
      have hjn : j < ops.size := (Array.getElem?_eq_some_iff.1 ho).1
      have hjl : j < listed.size := by omega
      have hj : listed.getD j false = false := by
        simp only [Array.getD_eq_getD_getElem?] at hj0 ⊢
        simp [hjl] at hj0 ⊢
        exact hj0
      have hrdy : ∀ i, (numAt bs j).testBit i = true → listed.getD i false = true := by
        intro i hb
        obtain ⟨e, he, hbi, h1⟩ := hs.bef j o i ho hb
        rcases h1 with rfl | h1
        · exact hal e he hbi
        · exact hdown e.on (hal e he hbi) i h1
      obtain ⟨p', q', a', w', E'', X', β', ν', ζ', hI, hdf, hos, -, hst⟩ := h.goOn hS hs hR hL hr0 hn (b := b) (k := k) hdown ho (by rw [hj]; simp) hrdy (fun _ _ h => h) ho rfl
      have hset : ∀ i, (listed.setIfInBounds j true).getD i false = true ↔ i = j ∨ listed.getD i false = true := by
        intro i
        by_cases e : i = j
        · subst e
          simp only [Array.getD_eq_getD_getElem?]
          simp [hjl]
        · rw [getD_set_ne false (Ne.symm e)]
          simp [e]
      have hfun : (fun i => (listed.setIfInBounds j true).getD i false = true) = fun i => i = j ∨ listed.getD i false = true := funext fun i => propext (hset i)
      have hI' : Inv ops R nt E H0 (fun _ => False) none (fun i => (listed.setIfInBounds j true).getD i false = true) (fun i => q' ≤ i) p' q' a' w'.heap E'' X' β' ν' ζ' := by rw [hfun]; exact hI
      have hjL : j ∈ L := (hL' j).2 ⟨hjn, hj⟩
      obtain ⟨E3, a3, w3, k1, k2, k3, kos, k4⟩ := ih (t / (Region.ready .any ops listed).length) (listed.setIfInBounds j true) (L.erase j) (by simpa using hsz) (hnd.erase j) (by rw [List.length_erase_of_mem hjL]; omega) (by
        intro i
        rw [hnd.mem_erase_iff, hL' i]
        constructor
        · rintro ⟨h1, h2, h3⟩
          refine ⟨h2, ?_⟩
          rw [getD_set_ne false (Ne.symm h1)]; exact h3
        · rintro ⟨h1, h2⟩
          have hne : i ≠ j := by
            rintro rfl
            have := (hset i).2 (.inl rfl)
            rw [this] at h2; cases h2
          rw [getD_set_ne false (Ne.symm hne)] at h2
          exact ⟨hne, h1, h2⟩) (by
        intro i hd i' hb
        rw [hset] at hd ⊢
        rcases hd with rfl | hd
        · exact .inr (hrdy i' hb)
        · exact .inr (hdown i hd i' hb)) hI'
      refine ⟨E3, a3, w3, k1, k2, by rw [k3, hdf], ⟨kos.1.trans hos.1, kos.2.trans hos.2⟩, fun cs => ?_⟩
      simp only []
      rw [linearise_go_acc, List.reverse_singleton, List.singleton_append]
      exact (hst cs _).trans (k4 cs)

theorem recheck_spec {fl : List (Nat × Nat)} (hsz : R.length = ops.size + 1) (h : fl.all (recheck P S ops R) = true) {j p : Nat} {o : Oper} (ho : ops[j]? = some o) (hm : (j, p) ∈ fl) (hp : p ≤ ops.size) (hw : (recAt R j).w = true) :
    ∃ u, evOp P S (recAt R j).t (recAt R p).st o = some ((recAt R j).v, u) := by
  have h1 := List.all_eq_true.1 h _ hm
  have hjn : j < ops.size := (Array.getElem?_eq_some_iff.1 ho).1
  have at' : ∀ i, i ≤ ops.size → R[i]? = some (recAt R i) := by
    intro i hi
    have : i < R.length := by omega
    simp [recAt, this]
  unfold recheck at h1
  rw [at' j (by omega), at' p hp] at h1
  simp only [ho, recheckO, hw, cond_true] at h1
  unfold sameR at h1
  split at h1
  · rename_i u st he
    rw [he, avEq_eq _ _ _ h1]; exact ⟨_, rfl⟩
  · cases h1

theorem drawR_spec {n0 : Nat} {b : Frame} {st : St} {w : World} {x : Ctx} (hS : SelfOK x.P x.S) {id : Nat} {ops : Array Oper} {t : Tr AV} {a : Act} {k : List Item} (hr : Rel E w.heap st) (ht : ConcT E x.nt t a.tmps) (hm : Marks n0 E w.heap st a.defers)
    {fl : List (Nat × Nat)} (hp : plan ops = some fl) (hl : (drawP x.P x.S x.nt ops t st (some fl)).lim E.top) : Arr x.P n0 E x.nt b w st (fun cs => lone (b.atR a (.code (.region id ops true) :: k)) cs w) k (drawP x.P x.S x.nt ops t st (some fl)) := by
  rw [← hp] at hl ⊢
  unfold plan at hl hp ⊢
  cases hb : befs ops.toList [] with
  | none => rw [hb] at hp; cases hp
  | some bs =>
    rw [hb] at hl hp
    simp only at hl hp ⊢
    cases hd : drawOkF ops bs [] ops.toList bs with
    | false => rw [hd] at hp; cases hp
    | true =>
      rw [hd] at hl
      simp only [cond_true] at hl ⊢
      generalize hks : ops.toList.map (fun o => kind o.op) = ks at hl ⊢
      have hks' : ∀ (i : Nat) (o : Oper), ops[i]? = some o → ks[i]? = some (kind o.op) := by
        intro i o ho
        rw [← hks, List.getElem?_map, Array.getElem?_toList, ho]; rfl
      have hksr : ∀ (i m : Nat), ks[i]? = some m → ∃ o, ops[i]? = some o ∧ kind o.op = m := by
        intro i m h
        rw [← hks, List.getElem?_map, Array.getElem?_toList] at h
        cases ho : ops[i]? with
        | none => rw [ho] at h; cases h
        | some o => rw [ho] at h; exact ⟨o, rfl, by simpa using h⟩
      clear hp
      generalize hfl : floatsOf ks bs (0 :: starts ks 0) ks 0 = fl at hl ⊢
      unfold drawP drawR at hl ⊢
      simp only at hl ⊢
      cases hrc : recs x.P x.S x.nt ops ops.toList t st with
      | none => trivial
      | some R =>
        rw [hrc] at hl
        simp only at hl ⊢
        cases hall : fl.all (recheck x.P x.S ops R) with
        | false => trivial
        | true =>
          rw [hall] at hl
          simp only [cond_true] at hl ⊢
          obtain ⟨e1, e2, e3, e4⟩ := recs_spec hrc
          have hsz : R.length = ops.size + 1 := by simpa using e1
          rw [lastOf_spec hsz] at hl ⊢
          have hn : (recAt R ops.size).st.next ≤ E.top := hl
          have hs := settled hb hd
          have hR : Ran x.P x.S x.nt ops R := fun i o ho => e4 i o (by rw [Array.getElem?_toList]; exact ho)
          have hL : Looks x.P x.S ops bs R := by
            intro j p o ho hk hw hp
            have hpn : p ≤ ops.size := by
              rcases hp with rfl | ⟨kk, rfl, o', h1, _⟩
              · omega
              · have := (Array.getElem?_eq_some_iff.1 h1).1; omega
            cases hpin : pinned ks bs j p with
            | true =>
              unfold pinned at hpin
              simp only [Bool.or_eq_true, Bool.and_eq_true] at hpin
              rcases hpin with h1 | h1 | ⟨h1, h2⟩
              · exact .inl h1
              · obtain ⟨i, k1, k2, k3⟩ := anyK_spec h1
                obtain ⟨o', k4, k5⟩ := hksr i 3 k1
                exact .inr (.inl ⟨i, ⟨o', k4, k5⟩, by omega, by simpa using k3⟩)
              · refine .inr (.inr (.inl ⟨by simpa [Nat.ble_eq] using h1, fun i o' k1 k2 k3 => ?_⟩))
                exact calm_spec h2 i _ (hks' i o' k3) (by omega) (by omega)
            | false =>
              refine .inr (.inr (.inr (recheck_spec hsz hall ho ?_ hpn hw)))
              rw [← hfl]
              have hmem : p ∈ (0 :: starts ks 0) := by
                rcases hp with rfl | ⟨kk, rfl, o', h1, h2⟩
                · simp
                · have hk3 : ks[kk]? = some 3 := by rw [hks' kk o' h1, h2]
                  have := starts_mem (k := 0) hk3
                  rw [Nat.zero_add] at this
                  exact List.mem_cons_of_mem _ this
              have := floatsOf_mem (ks := ks) (bs := bs) (ps := 0 :: starts ks 0) (l := ks) (k := 0) (j := j) (p := p) (by rw [hks' j o ho, hk]) hmem (by simpa using hpin)
              simpa using this
          have hr0 : Rel E w.heap (recAt R 0).st := by rw [e3]; exact hr
          obtain ⟨q, n1, n2, n3, n4⟩ := next_K ops ops.size 0 (by omega)
          obtain ⟨g1, g2⟩ := ran_gap hS.up hR q n1 n2 n3
          let X : St := ⟨(recAt R 0).st.rows, (recAt R 0).st.live, (recAt R q).st.next⟩
          let listed := Array.replicate ops.size false
          have hlf : ∀ i, listed.getD i false = false := by
            intro i
            simp only [listed, Array.getD_eq_getD_getElem?, Array.getElem?_replicate]
            split <;> rfl
          have hno : ∀ i, ¬ (listed.getD i false = true) := fun i h => by rw [hlf] at h; cases h
          have hI : Inv ops R x.nt E w.heap (fun _ => False) none (fun i => listed.getD i false = true) (fun i => q ≤ i) 0 q a w.heap E X (fun _ => 0) (fun _ => 0) (fun _ => undef) := by
            refine ⟨(Step.refl hr0).ext (fun _ => rfl) (fun _ => rfl) (ran_mono hS.up hR n1 n2), ht.1, fun x i o hd => absurd hd (hno i), fun x i o hd => absurd hd (hno i), fun y _ _ => ?_, ⟨n1, n2, fun i o h => by omega, n3, n4, fun i _ _ hd => hno i hd, .inl rfl⟩, rfl, ?_, ?_, ?_, ?_, fun i hd => absurd hd (hno i), fun i i' hd => absurd hd (hno i), fun b ob hb => by cases hb⟩
            · rw [e2]; exact ht.2 y
            · intro r h; exact ⟨hr0.freshRow r h, hr0.freshG r h⟩
            · intro g al hg y hy; exact hr0.liveLt g al y hg hy
            · intro i h1 h2 ha _
              have hge : (recAt R 0).st.next ≤ rowAt R i := ran_mono hS.up hR h1 (Nat.le_of_lt ha.lt)
              have hlt := row_lt hS.up hR ha h2 n2
              have hq := ran_mono hS.up hR n2 (Nat.le_refl _)
              exact ⟨hr0.freshRow _ hge, hr0.freshG _ hge, hr0.fresh _ hge (by omega)⟩
            · intro r h
              have := g1 r fun i h1 h2 ha => h i h1 h2 ha (fun ⟨h3, _⟩ => hno i h3)
              exact ⟨this.1.symm, this.2.symm⟩
          obtain ⟨E'', a', w', k1, k2, k3, kos, k4⟩ := sched (b := b) (k := k) hS hs hR hL hr0 hn ops.size (w.tape w.drawn (.order b.fn id)) listed (List.range ops.size) (by simp [listed]) List.nodup_range (by simp) (by
            intro i; simp [hlf i]) (fun j hd => absurd hd (hno j)) (w := { w with drawn := w.drawn + 1 }) hI
          rw [e3] at k1
          refine ⟨E'', a', w', ⟨k1, kos.1, kos.2⟩, k2, by rw [k3]; exact hm.step k1, fun cs => ?_⟩
          refine (Steps.one stepR_region_draw).trans ?_
          have hsch : Region.schedule (x.P.follows .mixedOrders) ops (w.tape w.drawn (.order b.fn id)) = Region.linearise.go .any ops ops.size (w.tape w.drawn (.order b.fn id)) listed [] := by
            simp only [Region.schedule, hS.mixed, Bool.true_or, if_true, Region.linearise, listed]
          rw [hsch]
          exact k4 cs

end

end

end Go.Ev
