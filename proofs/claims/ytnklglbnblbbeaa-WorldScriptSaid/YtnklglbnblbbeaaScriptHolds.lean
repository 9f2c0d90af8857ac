/-
  WorldScript answers true for every input, whatever calls it is handed, and leaves the world's memory as it was: the row.
-/
import Derived.Test.YtnklglbnblbbeaaScript
import Derived.Test.YtnklglbnblbbeaaEvData
import Derived.Test.YtnklglbnblbbeaaLives
import Derived.ProofKit
import Derived.OpenShut
namespace Go.Proofs.Ytnklglbnblbbeaa
open Go.ChangeShapes Go.WideShapes Go.ChangeAt Go.RowKit Go.Ev
set_option maxRecDepth 100000

theorem ownKnobNone : ownKnob Try.prog.godebug = none := by kernel_rfl
theorem Try.laidOut : laidOutB Try.prog = true := by kernel_rfl
theorem ag34 : isAg Try.prog 34 = false := by kernel_rfl

theorem byte_typed {k : Nat} {l : List AV} (h : Typed Try.prog k 5 l) : ∃ b, l = [.i .u8 b] := by
  cases k with
  | zero => cases h
  | succ k =>
    simp only [Typed, Try.underlying5] at h
    obtain ⟨n, h, -⟩ := h
    exact ⟨n, h⟩
theorem int_typed {k : Nat} {l : List AV} (h : Typed Try.prog k 3 l) : ∃ b, l = [.i .i64 b] := by
  cases k with
  | zero => cases h
  | succ k =>
    simp only [Typed, Try.underlying3] at h
    obtain ⟨n, h, -⟩ := h
    exact ⟨n, h⟩

theorem bytes_typed {k : Nat} {l : List AV} (h : Typed Try.prog k 26 l) : ∃ v cells, l = [v] ∧ IsSl v cells ∧ ∀ c ∈ cells, ∃ b, c = .i .u8 b := by
  cases k with
  | zero => cases h
  | succ k =>
    simp only [Typed, Try.underlying26, sz5] at h
    rcases h with h | h | ⟨els, h, -, h2⟩
    · cases h
    · exact ⟨.sn, [], h, .inl ⟨rfl, rfl⟩, fun c hc => by cases hc⟩
    · have key : ∀ els : List (List AV), (∀ x ∈ els, x.length = 1 ∧ Typed Try.prog k 5 x) → els.flatten.length = els.length ∧ ∀ c ∈ els.flatten, ∃ b, c = .i .u8 b := by
        intro els
        induction els with
        | nil => exact fun _ => ⟨rfl, fun c hc => by cases hc⟩
        | cons x els ih =>
          intro h
          obtain ⟨k1, k2⟩ := ih fun y hy => h y (List.mem_cons_of_mem _ hy)
          obtain ⟨b, rfl⟩ := byte_typed (h x (List.mem_cons_self ..)).2
          refine ⟨by simp [k1], fun c hc => ?_⟩
          rcases List.mem_append.1 (by simpa using hc : c ∈ [AV.i .u8 b] ++ els.flatten) with hc | hc
          · exact ⟨b, by simpa using hc⟩
          · exact k2 c hc
      obtain ⟨k1, k2⟩ := key els h2
      exact ⟨_, els.flatten, h, .inr (by rw [k1]), k2⟩

theorem act_typed {k : Nat} {l : List AV} (h : Typed Try.prog k 36 l) : ∃ x : Ac, x.Ok ∧ l = x.cells := by
  cases k with
  | zero => cases h
  | succ k =>
    simp only [Typed, Try.underlying36] at h
    obtain ⟨parts, rfl, h1, h2⟩ := h (by kernel_rfl)
    match parts, h1, h2 with
    | [p0, p1, p2, p3], h1, h2 =>
      obtain ⟨a, rfl⟩ := int_typed (h2 0 _ p0 rfl rfl).2
      obtain ⟨v, cells, rfl, k1, k2⟩ := bytes_typed (h2 1 _ p1 rfl rfl).2
      obtain ⟨b, rfl⟩ := byte_typed (h2 2 _ p2 rfl rfl).2
      obtain ⟨c, rfl⟩ := int_typed (h2 3 _ p3 rfl rfl).2
      exact ⟨⟨a, v, cells, b, c⟩, ⟨k1, k2⟩, rfl⟩

theorem acts_typed {k : Nat} {v : AV} (h : Typed Try.prog k 34 [v]) : ∃ L : List Ac, (∀ x ∈ L, Ac.Ok x) ∧ IsActs v L := by
  cases k with
  | zero => cases h
  | succ k =>
    simp only [Typed, Try.underlying34, sz36] at h
    rcases h with h | h | ⟨els, h, -, h2⟩
    · cases h
    · cases h
      exact ⟨[], fun p hp => (by cases hp), .inl ⟨rfl, rfl⟩⟩
    · have key : ∀ els : List (List AV), (∀ x ∈ els, x.length = 4 ∧ Typed Try.prog k 36 x) → ∃ L : List Ac, (∀ x ∈ L, Ac.Ok x) ∧ els.flatten = (L.map Ac.cells).flatten ∧ els.length = L.length := by
        intro els
        induction els with
        | nil => exact fun _ => ⟨[], fun p hp => (by cases hp), rfl, rfl⟩
        | cons x els ih =>
          intro h
          obtain ⟨L, k1, k2, k3⟩ := ih fun y hy => h y (List.mem_cons_of_mem _ hy)
          obtain ⟨a, k4, rfl⟩ := act_typed (h x (List.mem_cons_self ..)).2
          refine ⟨a :: L, fun p hp => ?_, by simp [k2], by simp [k3]⟩
          rcases List.mem_cons.1 hp with rfl | hp
          · exact k4
          · exact k1 p hp
      obtain ⟨L, k1, k2, k3⟩ := key els h2
      cases h
      exact ⟨L, k1, .inr (by rw [k2, k3])⟩

theorem script_calls {k : Nat} {av : AV} (u : Value) (W : World) (hc : Conc (inEnv W.heap 0) av u) (ht : Typed Try.prog k 34 [av]) :
    Calls Try.prog 5 #[u] W fun e W' => e = .returned (.bool true) ∧ (∀ may, W.keptBut W' may) ∧ ∀ i, i < W.heap.size → W'.heap[i]? = W.heap[i]? := by
  obtain ⟨L, hg, hv⟩ := acts_typed ht
  obtain ⟨st', he⟩ := script_body hg hv 1048600 (Nat.le_refl _)
  have he' : evBody Try.prog (withTrue 7 (self Try.prog 1048603)) 1048600 5 [av] st0 = some (.b true, st') := by
    rw [← he]
    exact body_at Try.func5 rfl (Nat.le_of_ble_eq_true rfl)
  exact calls_ofN (run_calls (noNG_spec noGoroutines) mixedOrders lives_true (l := [av]) (us := [u]) (fun top => .cons _ _ _ _ (hc.mono (inEnv_le _ _ _)) .nil) he')

theorem script_lifted (os : Os) (started : os.Started) (H : Type) (enc : TypeId × Value → H) :
    ReturnsInHanded {} Try.checked os 5 .any (Rows.worldScriptSpec.pre6 enc Try.prog Try.f5 Rows.worldScriptRow.domain false) (Rows.worldScriptSpec.post enc Try.prog Try.f5 false true false false) := by
  refine returnsInHanded_of_change (C := Try.checked) ownKnobNone started (by kernel_rfl) Try.func5
    (ChangeSpec.witness6 (enc := enc) (C := Try.checked) false ⟨#[], #[.slice none 0 0], []⟩ 8 (by kernel_rfl) (by kernel_rfl) (by kernel_rfl) (by kernel_rfl)) ?_
  intro W base args ds gs before hval0 hW hcnd _
  have hW' := hW
  obtain ⟨p, q, hA0, hV, rfl, _, _⟩ := hW
  have hA : DataW.TrodAll enc Try.prog W 0 (fun _ => true) true Try.f5.params.toList args.toList ds p := hA0
  rw [Try.params5] at hA
  obtain ⟨v0, d0, rfl, rfl, h0⟩ := trodAll_one hA
  obtain ⟨rfl, rfl⟩ := trodVars_none hV
  have hlt : ∀ x ∈ p, x.block < W.heap.size := fun x hx => by
    have := hW'.lt x (by simpa using hx)
    exact this
  obtain ⟨k, av, c1, c2⟩ := arg_one (hval0 0 34 v0 (by rw [Try.params5]; rfl) rfl) h0 ag34 0
  refine (script_calls v0 W c1 c2).mono fun e W' ⟨he, hw, hk⟩ => ?_
  subst he
  refine ⟨_, rfl, _, _, _, [], p, [], hW', ?_, ?_, ?_, hw _, fun h => by cases h⟩
  · exact trodAll_mk1 (shut_bool (by kernel_rfl) true)
  · exact trodAll_mk1 (WideElems.Trod_stays Try.laidOut (by kernel_rfl) (of_decide_eq_true (by kernel_rfl)) h0 (fun x hx => same_of_kept hk (hlt x hx)) (fun x hx => by simpa using hlt x hx))
  · rfl

theorem script_holds : Rows.WorldScriptSaid :=
  OpenClaim.holds_of_wide 5 Try.f5 rfl rfl rfl rfl rfl rfl rfl ⟨rfl, rfl, rfl, rfl, rfl⟩ rfl rfl rfl rfl rfl (by kernel_rfl) Try.func5 (by kernel_rfl)
    (of_decide_eq_true (by kernel_rfl)) (by unfold Func.isWrapper; first | (rw [if_pos (by decide +kernel)]; kernel_rfl) | (rw [if_neg (by decide +kernel)]; exact ⟨rfl, rfl⟩))
    (fun os started H enc _ => script_lifted os started H enc)
#print axioms script_holds
end Go.Proofs.Ytnklglbnblbbeaa
