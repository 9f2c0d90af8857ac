/-
  WorldChunks answers true for every input, whatever chunks it is handed, and leaves the world's memory as it was: the row.
-/
import Derived.Test.YtnklglbnblbbeaaChunks
import Derived.Test.YtnklglbnblbbeaaEvData
import Derived.Test.YtnklglbnblbbeaaLives
import Derived.ProofKit
import Derived.OpenShut
namespace Go.Proofs.Ytnklglbnblbbeaa
open Go.ChangeShapes Go.WideShapes Go.ChangeAt Go.RowKit Go.Ev
set_option maxRecDepth 100000

theorem ownKnobNone : ownKnob Try.prog.godebug = none := by kernel_rfl
theorem Try.laidOut : laidOutB Try.prog = true := by kernel_rfl
theorem ag22 : isAg Try.prog 22 = false := by kernel_rfl

theorem byte_typed {k : Nat} {l : List AV} (h : Typed Try.prog k 5 l) : ∃ b, l = [.i .u8 b] := by
  cases k with
  | zero => cases h
  | succ k =>
    simp only [Typed, Try.underlying5] at h
    obtain ⟨n, h, -⟩ := h
    exact ⟨n, h⟩

theorem bytes_typed {k : Nat} {l : List AV} (h : Typed Try.prog k 26 l) : ∃ v cells, l = [v] ∧ IsSl v cells ∧ ∀ c ∈ cells, ∃ b, c = .i .u8 b := by
  cases k with
  | zero => cases h
  | succ k =>
    simp only [Typed, Try.underlying26, sz5] at h
    rcases h with h | h | ⟨els, h, -, h2⟩
    · cases h
    · exact ⟨.sn, [], h, .inl ⟨rfl, rfl⟩, fun c hc => by cases hc⟩
    · have key : ∀ els : List (List AV), (∀ x ∈ els, x.length = 1 ∧ Typed Try.prog k 5 x) → els.flatten.length = els.length ∧ ∀ c ∈ els.flatten, ∃ b, c = .i .u8 b := by
        intro els
        induction els with
        | nil => exact fun _ => ⟨rfl, fun c hc => by cases hc⟩
        | cons x els ih =>
          intro h
          obtain ⟨k1, k2⟩ := ih fun y hy => h y (List.mem_cons_of_mem _ hy)
          obtain ⟨b, rfl⟩ := byte_typed (h x (List.mem_cons_self ..)).2
          refine ⟨by simp [k1], fun c hc => ?_⟩
          rcases List.mem_append.1 (by simpa using hc : c ∈ [AV.i .u8 b] ++ els.flatten) with hc | hc
          · exact ⟨b, by simpa using hc⟩
          · exact k2 c hc
      obtain ⟨k1, k2⟩ := key els h2
      exact ⟨_, els.flatten, h, .inr (by rw [k1]), k2⟩

theorem chunks_typed {k : Nat} {v : AV} (h : Typed Try.prog k 22 [v]) : ∃ l, Good l ∧ IsSl v (l.map (·.1)) := by
  cases k with
  | zero => cases h
  | succ k =>
    simp only [Typed, Try.underlying22, sz26] at h
    rcases h with h | h | ⟨els, h, -, h2⟩
    · cases h
    · cases h
      exact ⟨[], fun p hp => (by cases hp), .inl ⟨rfl, rfl⟩⟩
    · have key : ∀ els : List (List AV), (∀ x ∈ els, x.length = 1 ∧ Typed Try.prog k 26 x) → ∃ l, Good l ∧ els.flatten = l.map (·.1) ∧ els.length = l.length := by
        intro els
        induction els with
        | nil => exact fun _ => ⟨[], fun p hp => (by cases hp), rfl, rfl⟩
        | cons x els ih =>
          intro h
          obtain ⟨l, k1, k2, k3⟩ := ih fun y hy => h y (List.mem_cons_of_mem _ hy)
          obtain ⟨v, cells, rfl, k4, k5⟩ := bytes_typed (h x (List.mem_cons_self ..)).2
          refine ⟨(v, cells) :: l, fun p hp => ?_, by simp [k2], by simp [k3]⟩
          rcases List.mem_cons.1 hp with rfl | hp
          · exact ⟨k4, k5⟩
          · exact k1 p hp
      obtain ⟨l, k1, k2, k3⟩ := key els h2
      cases h
      exact ⟨l, k1, .inr (by rw [k2, k3, List.length_map])⟩

theorem chunks_calls {k : Nat} {av : AV} (u : Value) (W : World) (hc : Conc (inEnv W.heap 0) av u) (ht : Typed Try.prog k 22 [av]) :
    Calls Try.prog 3 #[u] W fun e W' => e = .returned (.bool true) ∧ (∀ may, W.keptBut W' may) ∧ ∀ i, i < W.heap.size → W'.heap[i]? = W.heap[i]? := by
  obtain ⟨l, hg, hv⟩ := chunks_typed ht
  obtain ⟨st', he⟩ := chunks_body hg hv 900000 (Nat.le_refl _)
  have he' : evBody Try.prog (withTrue 7 (self Try.prog 900002)) 900000 3 [av] st0 = some (.b true, st') := by
    rw [← he]
    exact body_at Try.func3 rfl (Nat.le_of_ble_eq_true rfl)
  exact calls_ofN (run_calls (noNG_spec noGoroutines) mixedOrders lives_true (l := [av]) (us := [u]) (fun top => .cons _ _ _ _ (hc.mono (inEnv_le _ _ _)) .nil) he')

theorem chunks_lifted (os : Os) (started : os.Started) (H : Type) (enc : TypeId × Value → H) :
    ReturnsInHanded {} Try.checked os 3 .any (Rows.worldChunksSpec.pre6 enc Try.prog Try.f3 Rows.worldChunksRow.domain false) (Rows.worldChunksSpec.post enc Try.prog Try.f3 false true false false) := by
  refine returnsInHanded_of_change (C := Try.checked) ownKnobNone started (by kernel_rfl) Try.func3
    (ChangeSpec.witness6 (enc := enc) (C := Try.checked) false ⟨#[], #[.slice none 0 0], []⟩ 8 (by kernel_rfl) (by kernel_rfl) (by kernel_rfl) (by kernel_rfl)) ?_
  intro W base args ds gs before hval0 hW hcnd _
  have hW' := hW
  obtain ⟨p, q, hA0, hV, rfl, _, _⟩ := hW
  have hA : DataW.TrodAll enc Try.prog W 0 (fun _ => true) true Try.f3.params.toList args.toList ds p := hA0
  rw [Try.params3] at hA
  obtain ⟨v0, d0, rfl, rfl, h0⟩ := trodAll_one hA
  obtain ⟨rfl, rfl⟩ := trodVars_none hV
  have hlt : ∀ x ∈ p, x.block < W.heap.size := fun x hx => by
    have := hW'.lt x (by simpa using hx)
    exact this
  obtain ⟨k, av, c1, c2⟩ := arg_one (hval0 0 22 v0 (by rw [Try.params3]; rfl) rfl) h0 ag22 0
  refine (chunks_calls v0 W c1 c2).mono fun e W' ⟨he, hw, hk⟩ => ?_
  subst he
  refine ⟨_, rfl, _, _, _, [], p, [], hW', ?_, ?_, ?_, hw _, fun h => by cases h⟩
  · exact trodAll_mk1 (shut_bool (by kernel_rfl) true)
  · exact trodAll_mk1 (WideElems.Trod_stays Try.laidOut (by kernel_rfl) (of_decide_eq_true (by kernel_rfl)) h0 (fun x hx => same_of_kept hk (hlt x hx)) (fun x hx => by simpa using hlt x hx))
  · rfl

theorem chunks_holds : Rows.WorldChunksSaid :=
  OpenClaim.holds_of_wide 3 Try.f3 rfl rfl rfl rfl rfl rfl rfl ⟨rfl, rfl, rfl, rfl, rfl⟩ rfl rfl rfl rfl rfl (by kernel_rfl) Try.func3 (by kernel_rfl)
    (of_decide_eq_true (by kernel_rfl)) (by unfold Func.isWrapper; first | (rw [if_pos (by decide +kernel)]; kernel_rfl) | (rw [if_neg (by decide +kernel)]; exact ⟨rfl, rfl⟩))
    (fun os started H enc _ => chunks_lifted os started H enc)
#print axioms chunks_holds
end Go.Proofs.Ytnklglbnblbbeaa
