/-
  PrepNormal answers true for every input, and leaves the world's memory as it was: the row and its tied card. The listed variables start as the program's text lays them; they are never read.
-/
import Derived.Test.YtfhhbndndhnpjaaGreatDoorNorm3
import Derived.Test.YtfhhbndndhnpjaaGreatDoorRows
import Derived.Test.YtfhhbndndhnpjaaGreatDoorCards
import Derived.Test.YtfhhbndndhnpjaaGreatDoorTie
import Derived.ProofKit
import Derived.OpenShut
import Derived.LaidMore
import Derived.Lay
import Derived.SevenTiedAt
import Derived.Stop.Joined
namespace Go.Proofs.YtfhhbndndhnpjaaGreatDoor
open Go.ChangeShapes Go.WideShapes Go.ChangeAt Go.RowKit Go.Ev
set_option maxRecDepth 100000

theorem str_typed {k : Nat} {l : List AV} (h : Typed Tryz.prog k 9 l) : ∃ s, l = [.s s] := by
  cases k with
  | zero => cases h
  | succ k =>
    simp only [Typed, Tryz.underlying9] at h
    obtain ⟨n, h, -⟩ := h
    exact ⟨n, h⟩
theorem int_typed {k : Nat} {l : List AV} (h : Typed Tryz.prog k 3 l) : ∃ n, l = [.i .i64 n] ∧ -9223372036854775808 ≤ n ∧ n ≤ 9223372036854775807 := by
  cases k with
  | zero => cases h
  | succ k =>
    simp only [Typed, Tryz.underlying3] at h
    obtain ⟨n, h, h1, h2⟩ := h
    exact ⟨n, h, h1, h2⟩
theorem int2_typed {k : Nat} {l : List AV} (h : Typed Tryz.prog k 2 l) : ∃ n, l = [.i .i64 n] := by
  cases k with
  | zero => cases h
  | succ k =>
    simp only [Typed, Tryz.underlying2] at h
    obtain ⟨n, h, -⟩ := h
    exact ⟨n, h⟩
theorem sz9 : szOf Tryz.prog 9 = 1 := by kernel_rfl
theorem strs_typed {k : Nat} {l : List AV} (h : Typed Tryz.prog k 22 l) : ∃ v, l = [v] ∧ isSc v = true := by
  cases k with
  | zero => cases h
  | succ k =>
    simp only [Typed, Tryz.underlying22, sz9] at h
    rcases h with h | h | ⟨els, h, -⟩
    · cases h
    · exact ⟨_, h, rfl⟩
    · exact ⟨_, h, rfl⟩

theorem mk_kids {m z : Nat} : ∀ {els : List (List AV)}, (∀ x ∈ els, ∃ p y, x = p ++ Ex.cells y ∧ p.length = m ∧ allSc p = true ∧ y.Wf) → ∃ l : ExL, l.slice z = .rs els.flatten els.length z ∧ l.flat = els.flatten ∧ l.len = els.length ∧ l.pre m ∧ l.Wf
  | [], _ => ⟨.nil false, by simp [ExL.slice], by simp [ExL.flat], by simp [ExL.len], fun p hp => by simp [ExL.list] at hp, by simp [ExL.Wf]⟩
  | x :: els, h => by
    obtain ⟨p, y, rfl, h1, h2, h3⟩ := h x (List.mem_cons_self ..)
    obtain ⟨l, -, k2, k3, k4, k5⟩ := mk_kids (m := m) (z := z) fun x hx => h x (List.mem_cons_of_mem _ hx)
    refine ⟨.cons p y l, by simp [ExL.slice, k2, k3], by simp [ExL.flat, k2], by simp [ExL.len, k3], fun q hq => ?_, by simp only [ExL.Wf]; exact ⟨⟨h3, h2⟩, k5⟩⟩
    rcases List.mem_cons.1 hq with rfl | hq
    · exact h1
    · exact k4 q hq

theorem kids_typed {e ty z m k : Nat} (hu : Tryz.prog.underlying ty = some (.slice e)) (hz : szOf Tryz.prog e = z) (h0 : z ≠ 0)
    (ih : ∀ x, Typed Tryz.prog k e x → ∃ p y, x = p ++ Ex.cells y ∧ p.length = m ∧ allSc p = true ∧ y.Wf) {l : List AV} (h : Typed Tryz.prog (k + 1) ty l) : ∃ ls : ExL, l = [ls.slice z] ∧ ls.pre m ∧ ls.Wf := by
  simp only [Typed, hu, hz] at h
  rcases h with h | h | ⟨els, h, -, h2⟩
  · exact absurd h h0
  · exact ⟨.nil true, by simp [h, ExL.slice], fun p hp => by simp [ExL.list] at hp, by simp [ExL.Wf]⟩
  · obtain ⟨ls, k1, -, -, k4, k5⟩ := mk_kids (z := z) fun x hx => ih x (h2 x hx).2
    exact ⟨ls, by rw [h, k1], k4, k5⟩

theorem ex_typed : ∀ (k : Nat) (l : List AV), Typed Tryz.prog k 27 l → ∃ x : Ex, x.Wf ∧ l = x.cells := by
  intro k
  induction k using Nat.strongRecOn with
  | ind k ih =>
    intro l h
    cases k with
    | zero => cases h
    | succ k =>
      simp only [Typed, Tryz.underlying27] at h
      obtain ⟨parts, rfl, h1, h2⟩ := h (by kernel_rfl)
      match parts, h1, h2 with
      | [p0, p1, p2, p3, p4, p5, p6], h1, h2 =>
        obtain ⟨kd, rfl, b1, b2⟩ := int_typed (h2 0 _ p0 rfl rfl).2
        obtain ⟨nm, rfl⟩ := str_typed (h2 1 _ p1 rfl rfl).2
        obtain ⟨num, rfl⟩ := int2_typed (h2 2 _ p2 rfl rfl).2
        obtain ⟨ps, rfl, hps⟩ := strs_typed (h2 3 _ p3 rfl rfl).2
        have t4 : Typed Tryz.prog k 23 p4 := (h2 4 _ p4 rfl rfl).2
        have t5 : Typed Tryz.prog k 24 p5 := (h2 5 _ p5 rfl rfl).2
        have t6 : Typed Tryz.prog k 25 p6 := (h2 6 _ p6 rfl rfl).2
        cases k with
        | zero => cases t4
        | succ k =>
          have i27 : ∀ x, Typed Tryz.prog k 27 x → ∃ p y, x = p ++ Ex.cells y ∧ p.length = 0 ∧ allSc p = true ∧ y.Wf := by
            intro x hx
            obtain ⟨y, w, rfl⟩ := ih k (by omega) x hx
            exact ⟨[], y, rfl, rfl, rfl, w⟩
          have i41 : ∀ x, Typed Tryz.prog k 41 x → ∃ p y, x = p ++ Ex.cells y ∧ p.length = 1 ∧ allSc p = true ∧ y.Wf := by
            intro x hx
            cases k with
            | zero => cases hx
            | succ k =>
              simp only [Typed, Tryz.underlying41] at hx
              obtain ⟨qs, rfl, g1, g2⟩ := hx (by kernel_rfl)
              match qs, g1, g2 with
              | [q0, q1], g1, g2 =>
                obtain ⟨s, rfl⟩ := str_typed (g2 0 _ q0 rfl rfl).2
                obtain ⟨y, w, rfl⟩ := ih k (by omega) q1 (g2 1 _ q1 rfl rfl).2
                exact ⟨[.s s], y, by simp, rfl, rfl, w⟩
          have i46 : ∀ x, Typed Tryz.prog k 46 x → ∃ p y, x = p ++ Ex.cells y ∧ p.length = 4 ∧ allSc p = true ∧ y.Wf := by
            intro x hx
            cases k with
            | zero => cases hx
            | succ k =>
              simp only [Typed, Tryz.underlying46] at hx
              obtain ⟨qs, rfl, g1, g2⟩ := hx (by kernel_rfl)
              match qs, g1, g2 with
              | [q0, q1, q2, q3, q4], g1, g2 =>
                obtain ⟨n, rfl, -⟩ := int_typed (g2 0 _ q0 rfl rfl).2
                obtain ⟨s, rfl⟩ := str_typed (g2 1 _ q1 rfl rfl).2
                obtain ⟨n2, rfl⟩ := int2_typed (g2 2 _ q2 rfl rfl).2
                obtain ⟨vs, rfl, hvs⟩ := strs_typed (g2 3 _ q3 rfl rfl).2
                obtain ⟨y, w, rfl⟩ := ih k (by omega) q4 (g2 4 _ q4 rfl rfl).2
                exact ⟨[.i .i64 n, .s s, .i .i64 n2, vs], y, by simp, rfl, by simp [hvs], w⟩
          obtain ⟨b, rfl, c1, c2⟩ := kids_typed Tryz.underlying23 sz41 (by decide) i41 t4
          obtain ⟨a, rfl, c3, c4⟩ := kids_typed Tryz.underlying24 sz27 (by decide) i27 t5
          obtain ⟨al, rfl, c5, c6⟩ := kids_typed Tryz.underlying25 sz46 (by decide) i46 t6
          exact ⟨.mk kd nm num ps b a al, by simp only [Ex.Wf]; exact ⟨⟨b1, b2⟩, ⟨c1, c3, c5⟩, ⟨c2, c4, c6⟩, hps⟩, by simp [Ex.cells]⟩

theorem own : ownKnob Tryz.prog.godebug = none := by kernel_rfl
theorem Tryz.laidOut : laidOutB Tryz.prog = true := by kernel_rfl

theorem wr_ok (S : Self) (hS : SelfOK Tryz.prog S) : SelfOK Tryz.prog (Wr Fs S) := by
  unfold Wr
  exact withPure_ok strict_pure _ (withTrue_ok hS fun w => saysTrue_calls (noNG_spec noGoroutines) mixedOrders lives_true w)

theorem normal_calls (u : Value) (W : World) {r : Reach} {b0 : Nat} {w1 : World} {H : Type} {enc : TypeId × Value → H} {d : DataW H} {ps : List MemPlace} {base : Nat} {spare : Nat → Bool} {held : Bool}
    (hval : Value.okWide Tryz.prog w1 r b0 27 u) (hd : DataW.Trod enc Tryz.prog W base spare held 27 u d ps) :
    Calls Tryz.prog 4 #[u] W fun e W' => e = .returned (.bool true) ∧ (∀ may, W.keptBut W' may) ∧ ∀ i, i < W.heap.size → W'.heap[i]? = W.heap[i]? := by
  obtain ⟨k, av, l, hc, ht, hl⟩ := arg_of hval hd 0
  obtain ⟨x, hw, rfl⟩ := ex_typed k l ht
  have hav : av = .ag x.cells := by
    rcases hl with h | h
    · have := congrArg List.length h
      rw [x.cells_len] at this
      cases this
    · exact h
  subst hav
  obtain ⟨st', he⟩ := normal_body (F := Fs) x hw (x.size + 20) (Nat.le_refl _)
  have he' : evBody Tryz.prog (selfW Tryz.prog (Wr Fs) (x.size + 20)) (x.size + 20) 4 [.ag x.cells] st0 = some (.b true, st') := by
    rw [← he]
    exact body_at Tryz.func4 rfl (Nat.le_of_ble_eq_true rfl)
  exact calls_ofN (run_callsS (selfW_ok (noNG_spec noGoroutines) mixedOrders wr_ok _) (l := [.ag x.cells]) (us := [u]) (fun top => .cons _ _ _ _ (hc.mono (inEnv_le _ _ _)) .nil) he')

theorem normal_lifted (os : Os) (started : os.Started) (H : Type) (enc : TypeId × Value → H) :
    ReturnsInHanded {} Tryz.checked os 4 .any (fun w args => (Rows.prepNormalSpec.pre enc Tryz.prog Tryz.f4 Rows.prepNormalRow.domain false w args ∧ laidMetH Tryz.prog Rows.prepNormalRow.laid w) ∧ sizedMet enc Tryz.prog Tryz.f4 (OpenSpec.ofChange Rows.prepNormalSpec) false w args)
      (Rows.prepNormalSpec.post enc Tryz.prog Tryz.f4 false true false false) := by
  refine returnsInHanded_of_change_and (C := Tryz.checked) (X := fun w _ => laidMetH Tryz.prog Rows.prepNormalRow.laid w) (fun _ _ _ hh h => h.of_heap hh) own started (by kernel_rfl) Tryz.func4
    (ChangeSpec.witness_shaped (enc := enc) (C := Tryz.checked) (os := os) (X := fun w _ => laidMetH Tryz.prog Rows.prepNormalRow.laid w) false (World.laidAll Tryz.prog os Rows.prepNormalRow.laid)
      #[.agg #[.int .i64 0, .string ⟨#[]⟩, .int .i64 0, .slice none 0 0, .slice none 0 0, .slice none 0 0, .slice none 0 0]] 8 (World.laidAll_os _ _ _)
      (World.shaped_of_ZipB (by kernel_rfl) (by kernel_rfl)) (by kernel_rfl) (by kernel_rfl) (by kernel_rfl)
      (by rw [MakeChecks.laidMetH_plain _ _ _ (by kernel_rfl)]; exact laidMet_laidAll _ (by kernel_rfl) (by kernel_rfl))) ?_
  intro W base args ds gs before hval0 hW hc _ hL _
  have hW' := hW
  obtain ⟨p, q, hA0, hV, rfl, _, _⟩ := hW
  have hA : DataW.TrodAll enc Tryz.prog W 0 (fun _ => true) true Tryz.f4.params.toList args.toList ds p := hA0
  rw [Tryz.params4] at hA
  obtain ⟨v0, d0, rfl, rfl, h0⟩ := trodAll_one hA
  obtain ⟨rfl, rfl⟩ := trodVars_none hV
  have hlt : ∀ x ∈ p, x.block < W.heap.size := fun x hx => by
    have := hW'.lt x (by simpa using hx)
    exact this
  refine (normal_calls v0 W (hval0 0 27 v0 (by rw [Tryz.params4]; rfl) rfl) h0).mono fun e W' ⟨he, hw, hk⟩ => ?_
  subst he
  refine ⟨_, rfl, _, _, _, [], p, [], hW', ?_, ?_, ?_, hw _, fun h => by cases h⟩
  · exact trodAll_mk1 (shut_bool (by kernel_rfl) true)
  · exact trodAll_mk1 (WideElems.Trod_stays Tryz.laidOut (by kernel_rfl) (of_decide_eq_true (by kernel_rfl)) h0 (fun x hx => same_of_kept hk (hlt x hx)) (fun x hx => by simpa using hlt x hx))
  · rfl

theorem normal_holds : Rows.PrepNormalSaid :=
  OpenClaim.holds_of_wide 4 Tryz.f4 rfl rfl rfl rfl rfl rfl rfl ⟨rfl, rfl, rfl, rfl, rfl⟩ rfl rfl rfl rfl rfl (by kernel_rfl) Tryz.func4 (by kernel_rfl)
    (of_decide_eq_true (by kernel_rfl)) (by unfold Func.isWrapper; first | (rw [if_pos (by decide +kernel)]; kernel_rfl) | (rw [if_neg (by decide +kernel)]; exact ⟨rfl, rfl⟩))
    (fun os started H enc _ => normal_lifted os started H enc)

theorem stand27 : Tryz.prog.wantsStandIn 27 = false := by kernel_rfl
theorem normal_card : Rows.PrepNormalCardSaid :=
  Claim7.holds_tied_plain_at .later [] [.data, .data, .data] true (true, "c8d957e78d5291c1590f36852348fa04f5913304b617fb4f00f6c5b77d64230f") true
    normal_holds (fun _ h => by cases h) (by kernel_rfl) (fun _ h => by cases h) prepNormal_row_tie rfl ⟨rfl, rfl⟩ (by kernel_rfl) rfl
    (fun f fn hf hfn => by
      obtain rfl : f = 4 := Option.some.inj ((show Tryz.prog.funcNamed "thunkmill/thunkmilllaw18.PrepNormal" = some 4 by kernel_rfl).symm.trans hf) |>.symm
      obtain rfl : fn = Tryz.f4 := (Option.some.inj (Tryz.func4.symm.trans hfn)).symm
      exact ⟨by kernel_rfl, fun j t ht => by
        rw [Tryz.params4] at ht
        have h27 : t = 27 := by
          cases j with
          | zero => simpa using ht.symm
          | succ j => simp at ht
        rw [h27]
        exact stand27⟩)
    (by kernel_rfl)
#print axioms normal_card
end Go.Proofs.YtfhhbndndhnpjaaGreatDoor
