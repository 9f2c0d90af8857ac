/-
  Strict's contract: of any name it gives a number, and changes nothing that was there.
-/
import Derived.Test.YtfhhbndndhnpjaaGreatDoorNorm1
import Derived.Test.YtfhhbndndhnpjaaGreatDoorLives
namespace Go.Proofs.YtfhhbndndhnpjaaGreatDoor
open Go.Ev
set_option maxRecDepth 100000
noncomputable section

def tabR : Option (AV × St) := (self Tryz.prog 60).call 73 [] st0
/-- Texts as keys, each once. -/
def keysS : List (AV × AV) → Bool
  | [] => true
  | (.s x, _) :: es => es.all (fun e => match e.1 with | .s y => !leq x y | _ => false) && keysS es
  | _ => false
def entryOK : AV → Bool
  | .ag [s, f] => (lenOf s).isSome && (!isText s && (isSc s && isSc f))
  | _ => false
def tabRow : Option Row → Bool
  | some (.mu es) => keysS es && es.all (fun e => entryOK e.2)
  | _ => false
def tabOK : Option (AV × St) → Bool
  | some (.m r, s) => tabRow (s.get r)
  | _ => false
theorem tab_ok : tabOK tabR = true := by kernel_rfl

/-- The state in which others is called. -/
def s1c (s : St) : St := (s.newCe [.sn, .fn0]).setCe s.next [.sn, .fn0] s.next
def othR : Option (AV × St) := match tabR with | some (_, s) => (self Tryz.prog 60).call 74 [] (s1c s) | none => none
def keysM : List (AV × AV × Nat) → Bool
  | [] => true
  | (.s _, .i .i64 _, _) :: es => keysM es
  | _ => false
def othRow : Option Row → Bool
  | some (.mp es _) => keysM es
  | _ => false
def othOK : Option (AV × St) → Bool
  | some (.m r, s) => othRow (s.get r)
  | _ => false
theorem oth_ok : othOK othR = true := by kernel_rfl

theorem leq_iff : ∀ {a b : List Nat}, leq a b = true ↔ a = b
  | [], [] => by simp [leq]
  | [], _ :: _ => by simp [leq]
  | _ :: _, [] => by simp [leq]
  | a :: x, b :: y => by
    have ih := leq_iff (a := x) (b := y)
    simp only [leq, nbeq]
    by_cases h : a = b
    · simp [h, ih]
    · simp [h]

theorem findU_s {l : List Nat} : ∀ {es : List (AV × AV)}, keysS es = true → (∃ v, findU (.s l) es = some (some v) ∧ ∃ k, (k, v) ∈ es) ∨ (findU (.s l) es = some none)
  | [], _ => .inr rfl
  | (.s x, v) :: es, h => by
    simp only [keysS, Bool.and_eq_true] at h
    have ih := findU_s (l := l) h.2
    have he : eqS (.s l) (.s x) = some (leq l x) := rfl
    by_cases hx : leq l x = true
    · have hx' := leq_iff.1 hx
      subst hx'
      have hnone : ∀ {fs : List (AV × AV)}, fs.all (fun e => match e.1 with | .s y => !leq l y | _ => false) = true → findU (.s l) fs = some none := by
        intro fs
        induction fs with
        | nil => intro _; rfl
        | cons f fs ihf =>
          intro hall
          rw [List.all_cons, Bool.and_eq_true] at hall
          obtain ⟨kf, vf⟩ := f
          cases kf <;> first | (simp at hall; done) | skip
          rename_i y
          have h1 : leq l y = false := by simpa using hall.1
          have e1 : eqS (.s l) (.s y) = some (leq l y) := rfl
          simp only [findU, e1, h1]
          exact ihf hall.2
      left
      refine ⟨v, ?_, .s l, List.mem_cons_self ..⟩
      simp only [findU, he, hx, hnone h.1]
    · have hx' : leq l x = false := by simpa using hx
      rcases ih with ⟨u, h1, k, h2⟩ | h1
      · left
        refine ⟨u, ?_, k, List.mem_cons_of_mem _ h2⟩
        simp only [findU, he, hx', h1]
      · right
        simp only [findU, he, hx', h1]

theorem find_s {l : List Nat} : ∀ {es : List (AV × AV × Nat)} {n : Nat}, keysM es = true → (∃ i v, find (.s l) es n = some (some (i, .i .i64 v))) ∨ find (.s l) es n = some none
  | [], n, _ => .inr rfl
  | (.s x, .i .i64 v, c) :: es, n, h => by
    simp only [keysM] at h
    have he : eqS (.s l) (.s x) = some (leq l x) := rfl
    by_cases hx : leq l x = true
    · left; exact ⟨n, v, by simp only [find, he, hx]⟩
    · have hx' : leq l x = false := by simpa using hx
      rcases find_s (l := l) (n := n + 1) h with ⟨i, u, h1⟩ | h1
      · left; exact ⟨i, u, by simp only [find, he, hx', h1]⟩
      · right; simp only [find, he, hx', h1]
end
end Go.Proofs.YtfhhbndndhnpjaaGreatDoor

/-
  Strict's contract, from its run with the tables known.
-/
namespace Go.Proofs.YtfhhbndndhnpjaaGreatDoor
open Go.Ev
set_option maxRecDepth 100000
noncomputable section

theorem zero124 : zeroC Tryz.prog 124 = some [.sn, .fn0] := by kernel_rfl
theorem zeroOf124 : zeroOf Tryz.prog 124 = some (.ag [.sn, .fn0]) := by kernel_rfl
theorem zeroOf3 : zeroOf Tryz.prog 3 = some (.i .i64 0) := by kernel_rfl
theorem inf124 : hasInfo Tryz.prog 124 = true := by kernel_rfl
theorem sz124 : szOf Tryz.prog 124 = 2 := by kernel_rfl
theorem off124 : fieldOff Tryz.prog 124 0 = some 0 := by kernel_rfl
theorem inf121 : hasInfo Tryz.prog 121 = true := by kernel_rfl
theorem ag121 : isAg Tryz.prog 121 = false := by kernel_rfl
theorem fits126 (l : List Nat) : keyFits Tryz.prog 126 (.s l) = true := by kernel_rfl
theorem fits118 (l : List Nat) : keyFits Tryz.prog 118 (.s l) = true := by kernel_rfl

theorem lookup126 {s : St} {r : Nat} {es : List (AV × AV)} {l : List Nat} (h : s.get r = some (.mu es)) : lookup Tryz.prog 126 s (.m r) (.s l) true = match findU (.s l) es with | some (some v) => some (.tu [v, .b true]) | some none => some (.tu [.ag [.sn, .fn0], .b false]) | none => none := by
  unfold lookup
  simp only [Tryz.underlying126, zeroOf124, h, fits126]
  rcases findU (.s l) es with _ | _ | v <;> rfl
theorem lookup118 {s : St} {r c : Nat} {es : List (AV × AV × Nat)} {l : List Nat} (h : s.get r = some (.mp es c)) : lookup Tryz.prog 118 s (.m r) (.s l) true = match find (.s l) es 0 with | some (some (_, v)) => some (.tu [v, .b true]) | some none => some (.tu [.i .i64 0, .b false]) | none => none := by
  unfold lookup
  simp only [Tryz.underlying118, zeroOf3, h, fits118]
  rcases find (.s l) es 0 with _ | _ | ⟨i, v⟩ <;> rfl

theorem lenOf_sl {P : Program} {st : St} {v : AV} (h1 : (lenOf v).isSome = true) (h2 : isText v = false) {ty e : TypeId} (h : P.underlying ty = some (.slice e)) : ∃ n : Nat, bLen P st [ty] [v] = some (.i .i64 (n : Int), st) := by
  obtain ⟨n, hn⟩ := Option.isSome_iff_exists.1 h1
  exact ⟨n, len_sl h hn h2⟩

@[simp] theorem opH_lookup {P : Program} {S : Self} {t : Tr AV} {st : St} {ty : TypeId} {m k : Operand} {ok : Bool} : opH (.lookup ty m k ok) P S t st = give st (lookup P ty st (evO t m) (evO t k) ok) := rfl
@[simp] theorem asSc_fn0 : isSc .fn0 = true := rfl

theorem strict_run (l : List Nat) : ∃ n st', evBody Tryz.prog (self Tryz.prog 60) 60 63 [.s l] st0 = some (.i .i64 n, st') := by
  have h1 := tab_ok
  unfold tabOK at h1
  split at h1 <;> first | (cases h1; done) | skip
  rename_i r s htab
  unfold tabRow at h1
  split at h1 <;> first | (cases h1; done) | skip
  rename_i es hrow
  rw [Bool.and_eq_true] at h1
  obtain ⟨hk, hall⟩ := h1
  have hT : (self Tryz.prog 60).call 73 [] st0 = some (.m r, s) := htab
  rw [body_at Tryz.func63 rfl (Nat.le_of_ble_eq_true rfl)]
  rcases findU_s (l := l) hk with ⟨v, hv, k, hkv⟩ | hv
  · have hev := List.all_eq_true.1 hall _ hkv
    unfold entryOK at hev
    split at hev <;> first | (cases hev; done) | skip
    rename_i sv fv heq
    have hvv : v = .ag [sv, fv] := heq
    subst hvv
    simp only [Bool.and_eq_true, Bool.not_eq_true'] at hev
    obtain ⟨e1, e2, e3, e4⟩ := hev
    have hlk := lookup126 (l := l) hrow
    rw [hv] at hlk
    obtain ⟨s2, w1, w2, -, -⟩ := alloc_store (s := s) (z := [.sn, .fn0]) (cells := [sv, fv]) rfl (by simp [e3, e4])
    obtain ⟨n, hn⟩ := lenOf_sl (st := s2) e1 e2 Tryz.underlying121
    refine ⟨n, s2, ?_⟩
    simp [Tryz.f63, callF_of Tryz.func73 rfl, hT, hlk, opH_alloc, zero124, store_ag inf124 sz124, w1, off124, load_p inf121 ag121, rd_of w2, hn, resOf_eq, pmapO]
  · have hlk := lookup126 (l := l) hrow
    rw [hv] at hlk
    have hw := wt_of (newCe_ce (st := s) [.sn, .fn0]) 0 [.sn, .fn0] (by simp) (by simp)
    have hs1 : (s.newCe [.sn, .fn0]).setCe s.next (ovr [.sn, .fn0] 0 [.sn, .fn0]) s.next = s1c s := rfl
    rw [hs1] at hw
    have h2 := oth_ok
    unfold othOK othR at h2
    have htab' : tabR = some (.m r, s) := htab
    rw [htab'] at h2
    simp only at h2
    split at h2 <;> first | (cases h2; done) | skip
    rename_i r2 s2 hoth
    unfold othRow at h2
    split at h2 <;> first | (cases h2; done) | skip
    rename_i es2 c2 hrow2
    have hl2 := lookup118 (l := l) hrow2
    rcases find_s (l := l) (n := 0) h2 with ⟨i, n, hf⟩ | hf
    · rw [hf] at hl2
      refine ⟨n, s2, ?_⟩
      simp [Tryz.f63, callF_of Tryz.func73 rfl, callF_of Tryz.func74 rfl, hT, hlk, opH_alloc, zero124, store_ag inf124 sz124, hw, hoth, hl2, resOf_eq, pmapO]
    · rw [hf] at hl2
      refine ⟨-1, s2, ?_⟩
      simp [Tryz.f63, callF_of Tryz.func73 rfl, callF_of Tryz.func74 rfl, hT, hlk, opH_alloc, zero124, store_ag inf124 sz124, hw, hoth, hl2, resOf_eq, pmapO]

/-- What Strict gives. -/
def Fs (l : List Nat) : Int := (strict_run l).choose

theorem strict_pure : PureOK Tryz.prog 63 (Fw Fs) := by
  intro E w xs us v hc hF
  unfold Fw at hF
  split at hF
  · rename_i l
    cases hF
    cases hc with
    | cons a b u us h t =>
    cases t
    obtain ⟨st', he⟩ := (strict_run l).choose_spec
    cases h
    refine pure_run (self_ok (noNG_spec noGoroutines) mixedOrders 60) (us := [_]) (fun top => .cons _ _ _ _ (.s _) .nil) he (fun E E' cv h => ?_) E
    cases h; exact .i _ _
  · cases hF
end
end Go.Proofs.YtfhhbndndhnpjaaGreatDoor
