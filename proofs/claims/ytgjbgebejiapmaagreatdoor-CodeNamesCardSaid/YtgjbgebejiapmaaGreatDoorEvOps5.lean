/- Each operation does in the model's memory what it does in the abstract state: slice expressions, append, copy. -/
import Derived.Test.YtgjbgebejiapmaaGreatDoorEvOps4
namespace Go.Ev

noncomputable section

section
variable {P : Program} {w : World} {E : Env} {st : St}

theorem slTy_spec {t z : Nat} (h : slTy P t z = true) : ∃ e, P.underlying t = some (.slice e) ∧ hasInfo P e = true ∧ szOf P e = z := by
  unfold slTy at h
  split at h
  · rename_i e he
    simp only [Bool.and_eq_true, nbeq, decide_eq_true_eq] at h
    exact ⟨e, elOf_spec he, h.1, h.2⟩
  · cases h

theorem extract_toList (s : ByteArray) (a b : Nat) : (s.extract a b).data.toList = (s.data.toList.drop a).take (b - a) := by
  simp [List.extract_eq_take_drop]

theorem slice_run {t e len cap a b m : Nat} {a0 : Addr} {l h y : Option Value} (hu : P.underlying t = some (.slice e)) (hie : hasInfo P e = true)
    (hr : (Instr.sliceBounds true len cap l h y).run P w = .ok (a, b, m) w) :
    (Instr.sliceAt t (.slice (some a0) len cap) l h y).run P w = .ok (.slice (some (if m = a then a0 else a0.add (a * szOf P e))) (b - a) (m - a)) w := by
  simp only [Instr.sliceAt, Instr.slice, Sem.run_bind, run_under hu, Result.andThen_ok, hr, run_size hie, Sem.run_pure]
  by_cases hm : m = a <;> simp [hm]

theorem slice_spec {t : TypeId} {x v : AV} {u : Value} {lo hi mx : Option AV} {l h y : Option Value} (hs : slice P t x lo hi mx = some v) (hx : Conc E x u) (h1 : ConcO E lo l) (h2 : ConcO E hi h) (h3 : ConcO E mx y) :
    ∃ z, (Instr.sliceAt t u l h y).run P w = .ok z w ∧ Conc E v z := by
  cases hx <;> first | (simp only [slice] at hs; cases hs; done) | skip
  · rename_i bs
    simp only [slice] at hs
    cases h3 with
    | some _ _ _ => cases hs
    | none =>
      cases hb : bnds (bs.data.toList.map UInt8.toNat).length (bs.data.toList.map UInt8.toNat).length lo hi none with
      | none => rw [hb] at hs; cases hs
      | some abm =>
        obtain ⟨a, b, m⟩ := abm
        rw [hb] at hs
        obtain ⟨ht, hs'⟩ := bor hs
        subst hs'
        have hu := isStr_spec ht
        have hlen : (bs.data.toList.map UInt8.toNat).length = bs.size := by simp
        rw [hlen] at hb
        obtain ⟨c1, c2, c3, hr⟩ := bnds_spec (P := P) (w := w) hb h1 h2 .none false
        refine ⟨.string (bs.extract a b), ?_, ?_⟩
        · simp only [Instr.sliceAt, Instr.slice, Sem.run_bind, run_under hu, Result.andThen_ok, Option.isSome_none, Bool.false_eq_true, if_false, hr, Sem.run_pure]
        · rw [← List.map_drop, ← List.map_take, ← extract_toList]
          exact .s _
  · rename_i r o B hB
    simp only [slice] at hs
    cases ha : arrOf P t with
    | none => rw [ha] at hs; cases hs
    | some nz =>
      obtain ⟨n, z⟩ := nz
      rw [ha] at hs
      simp only at hs
      cases hb : bnds n n lo hi mx with
      | none => rw [hb] at hs; cases hs
      | some abm =>
        obtain ⟨a, b, m⟩ := abm
        rw [hb] at hs; cases hs
        obtain ⟨e, hu, hie, rfl⟩ := arrOf_spec ha
        obtain ⟨c1, c2, c3, hr⟩ := bnds_spec (P := P) (w := w) hb h1 h2 h3 false
        refine ⟨.slice (some (if m = a then ⟨B.b, o + B.d, none⟩ else Addr.add ⟨B.b, o + B.d, none⟩ (a * szOf P e))) (b - a) (m - a), ?_, ?_⟩
        · simp only [Instr.sliceAt, Sem.run_bind, run_under hu, Result.andThen_ok, Instr.sureAddr, pure_bind, hr, run_size hie, Sem.run_pure]
        · refine .slk r _ _ _ _ _ (by omega) ?_
          by_cases hm : m = a
          · left; omega
          · right
            exact ⟨B, hB, by rw [if_neg hm, addr_add]; congr 1; omega⟩
  · rename_i r o n z c a0 hle hh
    simp only [slice] at hs
    cases hb : bnds n c lo hi mx with
    | none => rw [hb] at hs; cases hs
    | some abm =>
      obtain ⟨a, b, m⟩ := abm
      rw [hb] at hs
      obtain ⟨ht, hs'⟩ := bor hs
      subst hs'
      obtain ⟨e, hu, hie, rfl⟩ := slTy_spec ht
      obtain ⟨c1, c2, c3, hr⟩ := bnds_spec (P := P) (w := w) hb h1 h2 h3 true
      refine ⟨_, slice_run hu hie hr, .slk r _ _ _ _ _ (by omega) ?_⟩
      by_cases hm : m = a
      · left; omega
      · rcases hh with rfl | ⟨B, hB, rfl⟩
        · left; omega
        · right; exact ⟨B, hB, by rw [if_neg hm, addr_add]; congr 1; omega⟩
  · rename_i r o n z c a0 hle hh
    simp only [slice] at hs
    cases hb : bnds n n lo hi mx with
    | none => rw [hb] at hs; cases hs
    | some abm =>
      obtain ⟨a, b, m⟩ := abm
      rw [hb] at hs
      obtain ⟨ht, hs'⟩ := bor hs
      obtain ⟨e, hu, hie, rfl⟩ := slTy_spec ht
      have hb' := bnds_cap hb hle
      cases h3 with
      | none =>
        simp only [Option.isNone_none] at hs'
        subst hs'
        obtain ⟨c1, c2, c3, hr⟩ := bnds_spec (P := P) (w := w) hb' h1 h2 .none true
        simp only [capOf] at c1 c2 c3 hr
        refine ⟨_, slice_run hu hie hr, .slu r _ _ _ _ _ (by omega) ?_⟩
        obtain ⟨B, hB, hcc, hroom⟩ := hh
        refine ⟨B, hB, ?_, ?_⟩
        · by_cases hm : c = a
          · left; omega
          · rcases hcc with rfl | rfl
            · left; omega
            · right; rw [if_neg hm, addr_add]; congr 1; omega
        · have e3 : (c - a) * szOf P e = c * szOf P e - a * szOf P e := Nat.sub_mul c a _
          have e4 : a * szOf P e ≤ c * szOf P e := Nat.mul_le_mul_right _ (by omega)
          omega
      | some v0 u0 hv0 =>
        simp only [Option.isNone_some] at hs'
        subst hs'
        obtain ⟨c1, c2, c3, hr⟩ := bnds_spec (P := P) (w := w) hb' h1 h2 (.some v0 u0 hv0) true
        simp only [capOf] at c1 c2 c3 hr
        refine ⟨_, slice_run hu hie hr, .slk r _ _ _ _ _ (by omega) ?_⟩
        by_cases hm : m = a
        · left; omega
        · obtain ⟨B, hB, hcc, hroom⟩ := hh
          rcases hcc with rfl | rfl
          · left; omega
          · right; exact ⟨B, hB, by rw [if_neg hm, addr_add]; congr 1; omega⟩
  · simp only [slice] at hs
    cases he : elOf P t with
    | none => rw [he] at hs; cases hs
    | some e =>
      rw [he] at hs
      cases hb : bnds 0 0 lo hi mx with
      | none => rw [hb] at hs; cases hs
      | some abm =>
        obtain ⟨a, b, m⟩ := abm
        rw [hb] at hs
        obtain ⟨hie, hs'⟩ := bor hs
        subst hs'
        have hu := elOf_spec he
        obtain ⟨c1, c2, c3, hr⟩ := bnds_spec (P := P) (w := w) hb h1 h2 h3 true
        have ea : a = 0 := by omega
        have eb : b = 0 := by omega
        have em : m = 0 := by omega
        subst ea; subst eb; subst em
        refine ⟨.slice none 0 0, ?_, .sn⟩
        simp only [Instr.sliceAt, Instr.slice, Sem.run_bind, run_under hu, Result.andThen_ok, hr, run_size hie, Sem.run_pure]
        simp
  · rename_i c n z kk b0 o0 vs hle hv hc
    simp only [slice] at hs
    cases hb : bnds n n lo hi mx with
    | none => rw [hb] at hs; cases hs
    | some abm =>
      obtain ⟨a, b, m⟩ := abm
      rw [hb] at hs
      obtain ⟨ht, hs'⟩ := brec hs
      obtain ⟨e, hu, hie, rfl⟩ := slTy_spec ht
      have hb' := bnds_cap hb hle
      cases h3 with
      | none =>
        simp only [Option.isNone_none, Option.some.injEq] at hs'
        subst hs'
        obtain ⟨c1, c2, c3, hr⟩ := bnds_spec (P := P) (w := w) hb' h1 h2 .none true
        simp only [capOf] at c1 c2 c3 hr
        refine ⟨_, slice_run hu hie hr, ?_⟩
        by_cases hm : kk = a
        · have e1 : b - a = 0 := by omega
          have e2 : kk - a = 0 := by omega
          rw [e1, e2]; exact .rs0 _ _ _ _
        · rw [if_neg hm, addr_add]
          refine .rs _ _ _ _ b0 (o0 + a * szOf P e) (vs.drop (a * szOf P e)) (by omega) (fun j v hj => ?_) (hc.drop _)
          rw [List.getElem?_drop] at hj
          rw [show o0 + a * szOf P e + j = o0 + (a * szOf P e + j) by omega]
          exact hv _ v hj
      | some v0 u0 hv0 =>
        simp only [Option.isNone_some] at hs'
        obtain ⟨hma, hs''⟩ := bor hs'
        rw [nbeq, decide_eq_true_eq] at hma
        subst hs''
        subst hma
        obtain ⟨c1, c2, c3, hr⟩ := bnds_spec (P := P) (w := w) hb' h1 h2 (.some v0 u0 hv0) true
        simp only [capOf] at c1 c2 c3 hr
        refine ⟨_, slice_run hu hie hr, ?_⟩
        have e1 : b - m = 0 := by omega
        rw [e1, Nat.sub_self]
        exact .slk 0 0 0 _ 0 _ (Nat.le_refl _) (.inl rfl)
  · rename_i c z a0 kk
    simp only [slice] at hs
    cases hb : bnds 0 0 lo hi mx with
    | none => rw [hb] at hs; cases hs
    | some abm =>
      obtain ⟨a, b, m⟩ := abm
      rw [hb] at hs
      obtain ⟨ht, hs'⟩ := brec hs
      obtain ⟨e, hu, hie, rfl⟩ := slTy_spec ht
      have hb' := bnds_cap hb (Nat.zero_le kk)
      cases h3 with
      | none =>
        simp only [Option.isNone_none, Option.some.injEq] at hs'
        subst hs'
        obtain ⟨c1, c2, c3, hr⟩ := bnds_spec (P := P) (w := w) hb' h1 h2 .none true
        simp only [capOf] at c1 c2 c3 hr
        refine ⟨_, slice_run hu hie hr, ?_⟩
        have e1 : b - a = 0 := by
          obtain ⟨c4, c5, c6, -⟩ := bnds_spec (P := P) (w := w) hb h1 h2 .none true
          omega
        rw [e1]; exact .rs0 _ _ _ _
      | some v0 u0 hv0 =>
        simp only [Option.isNone_some] at hs'
        obtain ⟨hma, hs''⟩ := bor hs'
        rw [nbeq, decide_eq_true_eq] at hma
        subst hs''
        subst hma
        obtain ⟨c1, c2, c3, hr⟩ := bnds_spec (P := P) (w := w) hb' h1 h2 (.some v0 u0 hv0) true
        simp only [capOf] at c1 c2 c3 hr
        refine ⟨_, slice_run hu hie hr, ?_⟩
        have e1 : b - m = 0 := by omega
        rw [e1, Nat.sub_self]
        exact .slk 0 0 0 _ 0 _ (Nat.le_refl _) (.inl rfl)

/-- There is room, as told. -/
theorem roomed_spec (h : Rel E w.heap st) {r o n z c : Nat} {a : Addr} (hx : Conc E (.sl r o n z none) (.slice (some a) n c)) : roomed st r o z ≤ c := by
  cases hx with
  | slu _ _ _ _ _ _ hle hh =>
    obtain ⟨B, hB, -, hroom⟩ := hh
    unfold roomed
    cases hce : st.ce r with
    | none => exact Nat.zero_le _
    | some lga =>
      obtain ⟨l, g, al⟩ := lga
      simp only
      obtain ⟨B', cs, t, fz, hB', hH, hfz, hn, hdl, hC⟩ := h.cells hce
      rw [hB] at hB'; cases hB'
      rcases Nat.eq_zero_or_pos z with rfl | hz
      · simp
      · have h1 := Nat.div_mul_le_self (l.length - o) z
        have h2 : (l.length - o) / z * z ≤ c * z := by
          rcases Nat.lt_or_ge l.length o with h3 | h3
          · have : l.length - o = 0 := by omega
            rw [this]; simp
          · omega
        exact Nat.le_of_mul_le_mul_right h2 hz

theorem sliceRoom_spec (h : Rel E w.heap st) {t : TypeId} {x v : AV} {u : Value} {lo hi mx : Option AV} {l hv y : Option Value} (hs : sliceRoom P st t lo hi mx x = some v) (hx : Conc E x u) (h1 : ConcO E lo l) (h2 : ConcO E hi hv) (h3 : ConcO E mx y) :
    ∃ z, (Instr.sliceAt t u l hv y).run P w = .ok z w ∧ Conc E v z := by
  unfold sliceRoom at hs
  split at hs
  · rename_i r o n z
    cases hx with
    | slu _ _ _ _ c a0 hle hh =>
      have hrs := roomed_spec (w := w) h (.slu r o n z c a0 hle hh)
      unfold roomed at hrs
      cases hce : st.ce r with
      | none => rw [hce] at hs; cases hs
      | some lga =>
      obtain ⟨l0, g0, al0⟩ := lga
      rw [hce] at hs hrs
      simp only at hs hrs
      cases hb : bnds n ((l0.length - o) / z) lo hi mx with
      | none => rw [hb] at hs; cases hs
      | some abm =>
        obtain ⟨a, b, m⟩ := abm
        rw [hb] at hs
        obtain ⟨ht, hs'⟩ := bor hs
        obtain ⟨e, hu, hie, rfl⟩ := slTy_spec ht
        have hb' := bnds_cap2 hb hrs
        cases h3 with
        | none =>
          simp only [Option.isNone_none] at hs'
          subst hs'
          obtain ⟨c1, c2, c3, hr⟩ := bnds_spec (P := P) (w := w) hb' h1 h2 .none true
          simp only [capOf] at c1 c2 c3 hr
          refine ⟨_, slice_run hu hie hr, .slu r _ _ _ _ _ (by omega) ?_⟩
          obtain ⟨B, hB, hcc, hroom⟩ := hh
          refine ⟨B, hB, ?_, ?_⟩
          · by_cases hm : c = a
            · left; omega
            · rcases hcc with rfl | rfl
              · left; omega
              · right; rw [if_neg hm, addr_add]; congr 1; omega
          · have e3 : (c - a) * szOf P e = c * szOf P e - a * szOf P e := Nat.sub_mul c a _
            have e4 : a * szOf P e ≤ c * szOf P e := Nat.mul_le_mul_right _ (by omega)
            omega
        | some v0 u0 hv0 =>
          simp only [Option.isNone_some] at hs'
          subst hs'
          obtain ⟨c1, c2, c3, hr⟩ := bnds_spec (P := P) (w := w) hb' h1 h2 (.some v0 u0 hv0) true
          simp only [capOf] at c1 c2 c3 hr
          refine ⟨_, slice_run hu hie hr, .slk r _ _ _ _ _ (by omega) ?_⟩
          by_cases hm : m = a
          · left; omega
          · obtain ⟨B, hB, hcc, hroom⟩ := hh
            rcases hcc with rfl | rfl
            · left; omega
            · right; exact ⟨B, hB, by rw [if_neg hm, addr_add]; congr 1; omega⟩
  · cases hs

theorem sliceR_spec (h : Rel E w.heap st) {t : TypeId} {x v : AV} {u : Value} {lo hi mx : Option AV} {l hv y : Option Value} (hs : sliceR P st t x lo hi mx = some v) (hx : Conc E x u) (h1 : ConcO E lo l) (h2 : ConcO E hi hv) (h3 : ConcO E mx y) :
    ∃ z, (Instr.sliceAt t u l hv y).run P w = .ok z w ∧ Conc E v z := by
  unfold sliceR at hs
  split at hs
  · rename_i v' hv'
    cases hs
    exact slice_spec hv' hx h1 h2 h3
  · exact sliceRoom_spec h hs hx h1 h2 h3

end

end

end Go.Ev
