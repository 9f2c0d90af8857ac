/- Each operation does in the model's memory what it does in the abstract state: arithmetic, places, slices. -/
import Derived.Test.YtgjbgebejiapmaaGreatDoorEvOps
import Derived.IntWalk
import Derived.Laws.StructEq
namespace Go.Ev

noncomputable section

theorem ieq_eq (a b : Int) : ieq a b = decide (a = b) := by
  cases a with
  | ofNat a => cases b with
    | ofNat b =>
      show Nat.beq a b = _
      rw [nbeq, Bool.eq_iff_iff]
      simp only [decide_eq_true_eq]
      exact ⟨fun h => by rw [h], fun h => by injection h⟩
    | negSucc b => rfl
  | negSucc a => cases b with
    | ofNat b => rfl
    | negSucc b =>
      show Nat.beq a b = _
      rw [nbeq, Bool.eq_iff_iff]
      simp only [decide_eq_true_eq]
      exact ⟨fun h => by rw [h], fun h => by injection h⟩
theorem ilt_eq (a b : Int) : ilt a b = decide (a < b) := by
  cases a with
  | ofNat a => cases b with
    | ofNat b =>
      show Nat.blt a b = _
      rw [Bool.eq_iff_iff]
      simp [Nat.blt_eq]
    | negSucc b =>
      show false = _
      symm; simp
      omega
  | negSucc a => cases b with
    | ofNat b =>
      show true = _
      symm; simp
      omega
    | negSucc b =>
      show Nat.blt b a = _
      rw [Bool.eq_iff_iff]
      simp [Nat.blt_eq]
      omega
theorem keq_eq (a b : IntKind) : keq a b = decide (a = b) := rfl

theorem wr_eq (k : IntKind) (n : Int) : wr k n = k.wrap n := by
  have key : ∀ m : Int, -9223372036854775808 ≤ m → m ≤ 9223372036854775807 → IntKind.i64.wrap m = m := fun m h1 h2 => IntWalk.i64_in m ⟨h1, h2⟩
  cases n with
  | ofNat m =>
    show (@Bool.rec (fun _ => Int) (k.wrap _) (Int.ofNat m) (isI64 k && Nat.ble m 9223372036854775807)) = _
    cases hb : (isI64 k && Nat.ble m 9223372036854775807) with
    | false => rfl
    | true =>
      simp only [Bool.and_eq_true] at hb
      have hm := Nat.le_of_ble_eq_true hb.2
      cases k <;> simp [isI64] at hb
      exact (key (Int.ofNat m) (by simp only [Int.ofNat_eq_natCast]; omega) (by simp only [Int.ofNat_eq_natCast]; omega)).symm
  | negSucc m =>
    show (@Bool.rec (fun _ => Int) (k.wrap _) (Int.negSucc m) (isI64 k && Nat.ble m 9223372036854775807)) = _
    cases hb : (isI64 k && Nat.ble m 9223372036854775807) with
    | false => rfl
    | true =>
      simp only [Bool.and_eq_true] at hb
      have hm := Nat.le_of_ble_eq_true hb.2
      cases k <;> simp [isI64] at hb
      exact (key (Int.negSucc m) (by omega) (by omega)).symm

theorem leq_eq : ∀ a b : List Nat, leq a b = decide (a = b)
  | [], [] => rfl
  | [], _ :: _ => rfl
  | _ :: _, [] => rfl
  | a :: x, b :: y => by
    show (@Bool.rec (fun _ => Bool) false (leq x y) (Nat.beq a b)) = _
    rw [nbeq, leq_eq x y]
    by_cases h : a = b <;> simp [h]

theorem nats_inj : ∀ {x y : List UInt8}, x.map UInt8.toNat = y.map UInt8.toNat → x = y
  | [], [], _ => rfl
  | [], _ :: _, h => by simp at h
  | _ :: _, [], h => by simp at h
  | a :: x, b :: y, h => by
    simp only [List.map_cons, List.cons.injEq] at h
    rw [UInt8.toNat_inj.1 h.1, nats_inj h.2]

theorem llt_eq : ∀ x y : List UInt8, llt (x.map UInt8.toNat) (y.map UInt8.toNat) = Op.bytesLess x y
  | [], [] => rfl
  | [], _ :: _ => rfl
  | _ :: _, [] => rfl
  | a :: x, b :: y => by
    show (@Bool.rec (fun _ => Bool) (@Bool.rec (fun _ => Bool) false (llt (x.map UInt8.toNat) (y.map UInt8.toNat)) (Nat.beq a.toNat b.toNat)) true (Nat.blt a.toNat b.toNat)) = _
    rw [llt_eq x y, nbeq]
    simp only [Op.bytesLess]
    have h1 : Nat.blt a.toNat b.toNat = decide (a < b) := by
      rw [Bool.eq_iff_iff]; simp [Nat.blt_eq, UInt8.lt_iff_toNat_lt]
    have h2 : (a == b) = decide (a.toNat = b.toNat) := by
      rw [Bool.eq_iff_iff]; simp [UInt8.toNat_inj]
    rw [h1, h2]
    cases decide (a < b) <;> cases decide (a.toNat = b.toNat) <;> rfl

section
variable {P : Program} {w : World} {E : Env}
theorem intOp_spec {op : BinOp} {k : IntKind} {a b : Int} {v : AV} (h : intOp op k a b = some v) (xt : TypeId) :
    ∃ u, (Go.binOp op xt (.int k a) (.int k b)).run P w = .ok u w ∧ Conc E v u := by
  cases op <;> first | cases h | skip
  case add => exact ⟨.int k (k.wrap (a + b)), by simp [Go.binOp, Op.intArith], by rw [wr_eq]; exact .i k _⟩
  case sub => exact ⟨.int k (k.wrap (a - b)), by simp [Go.binOp, Op.intArith], by rw [wr_eq]; exact .i k _⟩
  case mul => exact ⟨.int k (k.wrap (a * b)), by simp [Go.binOp, Op.intArith], by rw [wr_eq]; exact .i k _⟩
  case quo =>
    have h' : intDivOk b (.i k (wr k (a.tdiv b))) = some v := h
    unfold intDivOk at h'
    rw [ieq_eq] at h'
    by_cases hb : b = 0
    · rw [decide_eq_true hb] at h'; cases h'
    · rw [decide_eq_false hb] at h'; cases h'
      exact ⟨.int k (k.wrap (a.tdiv b)), by simp [Go.binOp, Op.intDiv, hb], by rw [wr_eq]; exact .i k _⟩
  case rem =>
    have h' : intDivOk b (.i k (a.tmod b)) = some v := h
    unfold intDivOk at h'
    rw [ieq_eq] at h'
    by_cases hb : b = 0
    · rw [decide_eq_true hb] at h'; cases h'
    · rw [decide_eq_false hb] at h'; cases h'
      exact ⟨.int k (a.tmod b), by simp [Go.binOp, Op.intDiv, hb], .i k _⟩
  case and => exact ⟨_, by simp [Go.binOp, Op.intBits], .i k _⟩
  case or => exact ⟨_, by simp [Go.binOp, Op.intBits], .i k _⟩
  case xor => exact ⟨_, by simp [Go.binOp, Op.intBits], .i k _⟩
  case andNot => exact ⟨_, by simp [Go.binOp, Op.intBits], .i k _⟩
  case eql => exact ⟨.bool (a == b), by simp [Go.binOp, Op.intCmp], by rw [ieq_eq]; exact .b _⟩
  case neq => exact ⟨.bool (a != b), by simp [Go.binOp, Op.intCmp], by rw [ieq_eq, bne, show (a == b) = decide (a = b) from rfl]; exact .b _⟩
  case lss => exact ⟨.bool (a < b), by simp [Go.binOp, Op.intCmp], by rw [ilt_eq]; exact .b _⟩
  case leq => exact ⟨.bool (a ≤ b), by simp [Go.binOp, Op.intCmp], by rw [ilt_eq, show (!decide (b < a)) = decide (a ≤ b) by rw [← decide_not]; congr 1; simp]; exact .b _⟩
  case gtr => exact ⟨.bool (a > b), by simp [Go.binOp, Op.intCmp], by rw [ilt_eq]; exact .b _⟩
  case geq => exact ⟨.bool (a ≥ b), by simp [Go.binOp, Op.intCmp], by rw [ilt_eq, show (!decide (a < b)) = decide (a ≥ b) by rw [← decide_not]; congr 1; simp]; exact .b _⟩

theorem binI_spec {op : BinOp} {k : IntKind} {a : Int} {y v : AV} {u : Value} (h : binI k a op y = some v) (hu : Conc E y u) (xt : TypeId) :
    ∃ z, (Go.binOp op xt (.int k a) u).run P w = .ok z w ∧ Conc E v z ∧ ∃ k' b, u = .int k' b := by
  unfold binI at h
  cases hy : y.asI with
  | none => rw [hy] at h; cases h
  | some kb =>
    obtain ⟨k', b⟩ := kb
    have := AV.asI_some hy
    subst this
    rw [hy] at h
    simp only at h
    cases hu
    have other : sameK op k a k' b = some v → (op ≠ .shl ∧ op ≠ .shr) → ∃ z, (Go.binOp op xt (.int k a) (.int k' b)).run P w = .ok z w ∧ Conc E v z ∧ ∃ k'' b', Value.int k' b = .int k'' b' := by
      intro h _
      unfold sameK at h
      rw [keq_eq] at h
      by_cases hk : k = k'
      · subst hk
        rw [decide_eq_true rfl] at h
        obtain ⟨z, h1, h2⟩ := intOp_spec (P := P) (w := w) (E := E) h xt
        exact ⟨z, h1, h2, k, b, rfl⟩
      · rw [decide_eq_false hk] at h; cases h
    cases op <;> first | (refine other h ⟨?_, ?_⟩ <;> (intro hh; cases hh)) | skip
    · simp only [intAny, shlI] at h
      rw [ilt_eq] at h
      by_cases hb : b < 0
      · rw [decide_eq_true hb] at h; cases h
      · rw [decide_eq_false hb] at h; cases h
        exact ⟨.int k (k.wrap (a * 2 ^ (min b.toNat k.bits))), by simp [Go.binOp, Op.shift, hb], .i k _, k', b, rfl⟩
    · simp only [intAny, shrI] at h
      rw [ilt_eq] at h
      by_cases hb : b < 0
      · rw [decide_eq_true hb] at h; cases h
      · rw [decide_eq_false hb] at h; cases h
        exact ⟨.int k (a.fdiv (2 ^ (min b.toNat k.bits))), by simp [Go.binOp, Op.shift, hb], .i k _, k', b, rfl⟩

theorem strEq (a b : ByteArray) : leq (a.data.toList.map UInt8.toNat) (b.data.toList.map UInt8.toNat) = (a.toList == b.toList) := by
  rw [leq_eq, ByteArray.toList_eq, ByteArray.toList_eq, Bool.eq_iff_iff]
  simp only [decide_eq_true_eq, beq_iff_eq]
  exact ⟨fun h => nats_inj h, fun h => by rw [h]⟩

theorem strLt (a b : ByteArray) : llt (a.data.toList.map UInt8.toNat) (b.data.toList.map UInt8.toNat) = Op.bytesLess a.toList b.toList := by
  rw [llt_eq, ByteArray.toList_eq, ByteArray.toList_eq]

theorem strOp_spec {op : BinOp} {a b : ByteArray} {v : AV} (h : strOp op (a.data.toList.map UInt8.toNat) (b.data.toList.map UInt8.toNat) = some v) (xt : TypeId) :
    ∃ z, (Go.binOp op xt (.string a) (.string b)).run P w = .ok z w ∧ Conc E v z := by
  cases op <;> first | cases h | skip
  case add =>
    unfold strOp at h
    simp only at h
    obtain ⟨hb, h'⟩ := bor h
    clear h
    have hb := Nat.le_of_ble_eq_true hb
    simp only [List.length_map, Array.length_toList] at hb
    have hs : a.size + b.size ≤ 9223372036854775807 := hb
    subst h'
    refine ⟨.string (a ++ b), ?_, ?_⟩
    · simp only [Go.binOp, Op.stringOp]
      rw [if_neg]
      · rfl
      · simp [IntKind.max, IntKind.signed, IntKind.bits]; omega
    · have : a.data.toList.map UInt8.toNat ++ b.data.toList.map UInt8.toNat = (a ++ b).data.toList.map UInt8.toNat := by simp
      rw [this]; exact .s _
  case eql => exact ⟨.bool (a.toList == b.toList), by simp [Go.binOp, Op.stringOp], by rw [strEq]; exact .b _⟩
  case neq => exact ⟨.bool (!(a.toList == b.toList)), by simp [Go.binOp, Op.stringOp], by rw [strEq]; exact .b _⟩
  case lss => exact ⟨.bool (Op.bytesLess a.toList b.toList), by simp [Go.binOp, Op.stringOp], by rw [strLt]; exact .b _⟩
  case leq => exact ⟨.bool (Op.bytesLess a.toList b.toList || a.toList == b.toList), by simp [Go.binOp, Op.stringOp], by rw [strLt, strEq]; exact .b _⟩
  case gtr => exact ⟨.bool (!(Op.bytesLess a.toList b.toList || a.toList == b.toList)), by simp [Go.binOp, Op.stringOp], by rw [strLt, strEq]; exact .b _⟩
  case geq => exact ⟨.bool (!Op.bytesLess a.toList b.toList), by simp [Go.binOp, Op.stringOp], by rw [strLt]; exact .b _⟩

theorem nilP_spec {x : AV} {u : Value} {b : Bool} (h : x.nilP = some b) (hx : Conc E x u) : ∃ a, u = .pointer a ∧ a.isNone = b := by
  cases hx <;> cases h <;> exact ⟨_, rfl, rfl⟩
theorem nilS_spec {x : AV} {u : Value} {b : Bool} (h : x.nilS = some b) (hx : Conc E x u) : ∃ a n c, u = .slice a n c ∧ a.isNone = b := by
  cases hx <;> cases h <;> exact ⟨_, _, _, rfl, rfl⟩
theorem nilM_spec {x : AV} {u : Value} {b : Bool} (h : x.nilM = some b) (hx : Conc E x u) : ∃ a, u = .map a ∧ a.isNone = b := by
  cases hx <;> cases h <;> exact ⟨_, rfl, rfl⟩
theorem nilF_spec {x : AV} {u : Value} {b : Bool} (h : x.nilF = some b) (hx : Conc E x u) : (b = true ∧ u = .nilFunc) ∨ (b = false ∧ ∃ f a c, u = .func f a c) := by
  cases hx <;> cases h <;> first | exact .inr ⟨rfl, _, _, _, rfl⟩ | exact .inl ⟨rfl, rfl⟩
theorem nilI_spec {x : AV} {u : Value} {b : Bool} (h : x.nilI = some b) (hx : Conc E x u) : (b = true ∧ u = .nilIface) ∨ (b = false ∧ ∃ t v, u = .iface t v) := by
  cases hx <;> cases h
  · exact .inr ⟨rfl, _, _, rfl⟩
  · exact .inl ⟨rfl, rfl⟩
theorem eqNil_spec {a b : Option Bool} {r : Bool} (h : eqNil a b = some r) : (a = some true ∧ b = some r) ∨ (a = some false ∧ b = some true ∧ r = false) := by
  rcases a with _ | _ | _ <;> rcases b with _ | _ | _ <;> cases h <;> simp

theorem eqT1_spec {t : TypeId} {x y : AV} {r : Bool} {u1 u2 : Value} (h : eqT1 P t x y = some r) (hx : Conc E x u1) (hy : Conc E y u2) (d : Nat) :
    (Op.equalIn (d + 1) t u1 u2).run P w = .ok r w := by
  unfold eqT1 at h
  split at h
  · rename_i hu
    unfold eqB at h
    cases h1 : x.asB with
    | none => rw [h1] at h; cases h
    | some a =>
      cases h2 : y.asB with
      | none => rw [h1, h2] at h; cases h
      | some b =>
        rw [h1, h2] at h; cases h
        have := AV.asB_some h1; subst this
        have := AV.asB_some h2; subst this
        cases hx; cases hy
        simp [Op.equalIn, run_under hu]
  · rename_i k hu
    unfold eqI at h
    cases h1 : x.asI with
    | none => rw [h1] at h; cases h
    | some a =>
      obtain ⟨k1, a⟩ := a
      cases h2 : y.asI with
      | none => rw [h1, h2] at h; cases h
      | some b =>
        obtain ⟨k2, b⟩ := b
        rw [h1, h2] at h
        have := AV.asI_some h1; subst this
        have := AV.asI_some h2; subst this
        simp only [keq_eq, ieq_eq] at h
        obtain ⟨hk, h'⟩ := bor h
        clear h
        simp only [decide_eq_true_eq] at hk
        subst hk; subst h'
        cases hx; cases hy
        simp [Op.equalIn, run_under hu]
        rfl
  · rename_i hu
    unfold eqStr at h
    cases h1 : x.asS with
    | none => rw [h1] at h; cases h
    | some a =>
      cases h2 : y.asS with
      | none => rw [h1, h2] at h; cases h
      | some b =>
        rw [h1, h2] at h; cases h
        have := AV.asS_some h1; subst this
        have := AV.asS_some h2; subst this
        cases hx; cases hy
        rw [strEq, ← beq_toListBytes]
        simp [Op.equalIn, run_under hu]
  · rename_i e hu
    cases hn : eqNil x.nilP y.nilP with
    | some v =>
      rw [hn] at h; cases h
      rcases eqNil_spec hn with ⟨h1, h2⟩ | ⟨h1, h2, rfl⟩
      · obtain ⟨a, rfl, ha⟩ := nilP_spec h1 hx
        obtain ⟨b, rfl, hb⟩ := nilP_spec h2 hy
        cases a <;> simp at ha
        simp [Op.equalIn, run_under hu, hb]
      · obtain ⟨a, rfl, ha⟩ := nilP_spec h1 hx
        obtain ⟨b, rfl, hb⟩ := nilP_spec h2 hy
        cases a <;> simp at ha
        cases b <;> simp at hb
        simp [Op.equalIn, run_under hu]
    | none =>
      rw [hn] at h
      simp only [orElse, eqP2] at h
      cases h1 : x.asP with
      | none => rw [h1] at h; cases h
      | some p1 =>
        obtain ⟨r1, o1⟩ := p1
        cases h2 : y.asP with
        | none => rw [h1, h2] at h; cases h
        | some p2 =>
          obtain ⟨r2, o2⟩ := p2
          rw [h1, h2] at h
          have := AV.asP_some h1; subst this
          have := AV.asP_some h2; subst this
          simp only [nbeq] at h
          obtain ⟨hb, h'⟩ := bor h
          clear h h1 h2 hn
          simp only [Bool.and_eq_true, decide_eq_true_eq] at hb
          obtain ⟨⟨hrr, hi⟩, hz⟩ := hb
          subst hrr
          cases hx with
          | p _ _ B1 hB1 =>
            cases hy with
            | p _ _ B2 hB2 =>
              rw [hB1] at hB2; cases hB2
              have hz : ¬ szOf P e = 0 := by rw [Nat.blt_eq] at hz; omega
              subst h'
              simp only [Op.equalIn, Sem.run_bind, run_under hu, Result.andThen_ok, run_size hi, ne_eq, hz, not_false_eq_true, if_true, sameAddr, beq_self_eq_true, Sem.run_pure]
              congr 1
              rw [Bool.eq_iff_iff]
              simp
  · rename_i hu
    rcases eqNil_spec h with ⟨h1, h2⟩ | ⟨h1, h2, rfl⟩
    · obtain ⟨a, n, c, rfl, ha⟩ := nilS_spec h1 hx
      obtain ⟨b, m, k, rfl, hb⟩ := nilS_spec h2 hy
      cases a <;> simp at ha
      simp [Op.equalIn, run_under hu, hb]
    · obtain ⟨a, n, c, rfl, ha⟩ := nilS_spec h1 hx
      obtain ⟨b, m, k, rfl, hb⟩ := nilS_spec h2 hy
      cases a <;> simp at ha
      cases b <;> simp at hb
      simp [Op.equalIn, run_under hu]
  · rename_i hu
    rcases eqNil_spec h with ⟨h1, h2⟩ | ⟨h1, h2, rfl⟩
    · obtain ⟨a, rfl, ha⟩ := nilM_spec h1 hx
      obtain ⟨b, rfl, hb⟩ := nilM_spec h2 hy
      cases a <;> simp at ha
      simp [Op.equalIn, run_under hu, hb]
    · obtain ⟨a, rfl, ha⟩ := nilM_spec h1 hx
      obtain ⟨b, rfl, hb⟩ := nilM_spec h2 hy
      cases a <;> simp at ha
      cases b <;> simp at hb
      simp [Op.equalIn, run_under hu]
  · rename_i hu
    rcases eqNil_spec h with ⟨h1, h2⟩ | ⟨h1, h2, rfl⟩
    · rcases nilF_spec h1 hx with ⟨-, rfl⟩ | ⟨hh, -⟩
      · rcases nilF_spec h2 hy with ⟨rfl, rfl⟩ | ⟨rfl, f, a, c, rfl⟩ <;> simp [Op.equalIn, run_under hu]
      · cases hh
    · rcases nilF_spec h1 hx with ⟨hh, -⟩ | ⟨-, f, a, c, rfl⟩
      · cases hh
      · rcases nilF_spec h2 hy with ⟨-, rfl⟩ | ⟨hh, -⟩
        · simp [Op.equalIn, run_under hu]
        · cases hh
  · rename_i hu
    rcases eqNil_spec h with ⟨h1, h2⟩ | ⟨h1, h2, rfl⟩
    · rcases nilI_spec h1 hx with ⟨-, rfl⟩ | ⟨hh, -⟩
      · rcases nilI_spec h2 hy with ⟨rfl, rfl⟩ | ⟨rfl, f, a, rfl⟩ <;> simp [Op.equalIn, run_under hu]
      · cases hh
    · rcases nilI_spec h1 hx with ⟨hh, -⟩ | ⟨-, f, a, rfl⟩
      · cases hh
      · rcases nilI_spec h2 hy with ⟨-, rfl⟩ | ⟨hh, -⟩
        · simp [Op.equalIn, run_under hu]
        · cases hh
  · cases h
end

end

end Go.Ev
