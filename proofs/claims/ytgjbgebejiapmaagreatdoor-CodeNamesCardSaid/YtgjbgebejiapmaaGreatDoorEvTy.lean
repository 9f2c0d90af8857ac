/- Strings made out of a slice's bytes, as they lie there. -/
import Derived.Test.YtgjbgebejiapmaaGreatDoorEvOps11
import Derived.Test.YtgjbgebejiapmaaGreatDoorEvMono
import Derived.Lib.UnsafeStr
namespace Go.Ev

noncomputable section

section
variable {P : Program} {w : World} {E : Env} {st : St}

theorem sliceData_spec (h : Rel E w.heap st) {ts : List TypeId} {as : List AV} {us : List Value} {v : AV} {st' : St} (hb : bSliceData P st ts as = some (v, st')) (hc : ConcL E as us) (tsA : Array TypeId) (ty : TypeId) :
    ∃ z, (Builtin.unsafeSliceData_ tsA ty us.toArray).run P w = .ok z w ∧ st' = st ∧ Conc E v z := by
  unfold bSliceData at hb
  split at hb
  · rename_i r o n z c
    obtain ⟨hn, hb⟩ := bor hb
    cases hb
    have hn' : 0 < n := by simpa [Nat.blt_eq] using hn
    cases hc with | cons _ _ u us hu t =>
    cases t
    cases hu with
    | slk _ _ _ _ c a hle hh =>
      rcases hh with rfl | ⟨B, hB, rfl⟩
      · omega
      · exact ⟨_, Lib.run_unsafeSliceData_row w tsA ty _ n c (by omega), rfl, .p r o B hB⟩
    | slu _ _ _ _ c a hle hh =>
      obtain ⟨B, hB, hcc, -⟩ := hh
      rcases hcc with rfl | rfl
      · omega
      · exact ⟨_, Lib.run_unsafeSliceData_row w tsA ty _ n c (by omega), rfl, .p r o B hB⟩
  · cases hb
    cases hc with | cons _ _ u us hu t =>
    cases t
    cases hu
    exact ⟨_, Lib.run_unsafeSliceData_nil w tsA ty 0 0, rfl, .pn⟩
  · cases hb

theorem byteOf_some {v : AV} {b : Nat} (h : byteOf v = some b) : v = .i .u8 (.ofNat b) ∧ b < 256 := by
  unfold byteOf at h
  split at h
  · obtain ⟨hb, h⟩ := bor h
    subst h
    exact ⟨rfl, by simpa [Nat.blt_eq] using hb⟩
  · cases h

theorem bytes_of : ∀ {l : List AV} {bs : List Nat} {us : List Value}, pmapO byteOf l = some bs → ConcL E l us → us = (bs.map Nat.toUInt8).map (fun b => Value.int .u8 b.toNat) ∧ (bs.map Nat.toUInt8).map UInt8.toNat = bs
  | [], bs, us, h, hc => by cases h; cases hc; exact ⟨rfl, rfl⟩
  | v :: l, bs, us, h, hc => by
    unfold pmapO at h
    cases hv : byteOf v with
    | none => rw [hv] at h; cases h
    | some b =>
      rw [hv] at h
      simp only at h
      cases hl : pmapO byteOf l with
      | none => rw [hl] at h; cases h
      | some bs' =>
        rw [hl] at h; cases h
        obtain ⟨rfl, hb⟩ := byteOf_some hv
        cases hc with | cons _ _ u us hu t =>
        obtain ⟨h1, h2⟩ := bytes_of hl t
        cases hu
        have e : (b.toUInt8).toNat = b := by simp [Nat.mod_eq_of_lt hb]
        refine ⟨?_, ?_⟩
        · rw [h1]
          simp only [List.map_cons, e]
          rfl
        · simp only [List.map_cons, e, h2]

theorem unsafeStr_spec (h : Rel E w.heap st) {pt it : TypeId} {p v : AV} {n : Nat} {up : Value} {st' : St} (hb : unsafeStr0 P st pt n p = some (v, st')) (hp : Conc E p up) (ty : TypeId) :
    ∃ z w', (Builtin.unsafeString_ #[pt, it] ty #[up, .int .i64 (Int.ofNat n)]).run P w = .ok z w' ∧ StepW E E w w' st st' ∧ Conc E v z := by
  have empty : Conc E (.s []) (.string .empty) := Conc.s (E := E) .empty
  unfold unsafeStr0 at hb
  split at hb
  · rename_i r o
    cases hp with | p _ _ B hB =>
    cases h0 : Nat.beq n 0 with
    | true =>
      rw [h0] at hb
      cases hb
      have := Nat.eq_of_beq_eq_true h0
      subst this
      exact ⟨_, w, Lib.run_unsafeString_none w pt it ty _, .refl h, empty⟩
    | false =>
      rw [h0] at hb
      have h0' : n ≠ 0 := by rintro rfl; cases h0
      obtain ⟨ho, hb⟩ := brec hb
      have ho' := Nat.eq_of_beq_eq_true ho
      subst ho'
      unfold unsafeStr at hb
      split at hb
      case h_2 => cases hb
      rename_i e hu
      obtain ⟨hk, hb⟩ := brec hb
      simp only [Bool.and_eq_true] at hk
      obtain ⟨hty, hsz, hmax⟩ := hk
      cases hrd : rd st r 0 n with
      | none => rw [hrd] at hb; cases hb
      | some l =>
        rw [hrd] at hb
        unfold strKill at hb
        simp only at hb
        cases hbs : pmapO byteOf l with
        | none => rw [hbs] at hb; cases hb
        | some bs =>
          rw [hbs] at hb
          cases hb
          obtain ⟨B2, hB2, hd2, cs2, fz2, hH2⟩ := tyIs_at h hty
          rw [hB] at hB2; cases hB2
          have hd := hd2 rfl
          unfold rd at hrd
          cases hce : st.ce r with
          | none => rw [hce] at hrd; cases hrd
          | some lga =>
            obtain ⟨l0, g, al⟩ := lga
            rw [hce] at hrd
            simp only at hrd
            obtain ⟨B', cs, t', fz, hB', hH, hfz, hn, hdl, hC⟩ := h.cells hce
            rw [hB] at hB'; cases hB'
            have htt : t' = e := by rw [hH] at hH2; simp only [Option.some.injEq, Obj.cells.injEq] at hH2; exact hH2.2.1
            subst htt
            obtain ⟨rfl, hle⟩ := cut_spec hrd
            have hle' : n ≤ l0.length := by omega
            rw [hd, List.drop_zero] at hC
            rw [List.drop_zero] at hbs
            have hCn := hC.take n
            rw [List.take_take, Nat.min_eq_left hle'] at hCn
            obtain ⟨hus, hbb⟩ := bytes_of hbs hCn
            have hlen : (bs.map Nat.toUInt8).length = n := by
              have := congrArg List.length hus
              simp only [List.length_take, List.length_map] at this
              rw [List.length_map]
              omega
            have hcell : ∀ j x, (bs.map Nat.toUInt8)[j]? = some x → w.cell? ((⟨B.b, 0, none⟩ : Addr).add j) = some (.int .u8 x.toNat) := by
              intro j x hj
              have hjn : j < n := by rw [← hlen]; exact (List.getElem?_eq_some_iff.1 hj).1
              have h1 : (cs.take n)[j]? = some (Value.int .u8 x.toNat) := by
                rw [hus, List.getElem?_map, hj]; rfl
              rw [List.getElem?_take_of_lt hjn] at h1
              have hadd : (⟨B.b, 0, none⟩ : Addr).add j = ⟨B.b, j, none⟩ := by
                unfold Addr.add; split <;> simp_all
              rw [hadd]
              simp [World.cell?, hH, h1]
            have hcs1 : P.cellsOf t' = 1 := by
              have h1 : szOf P t' = 1 := Nat.eq_of_beq_eq_true hsz
              unfold szOf at h1
              unfold Program.cellsOf
              cases hi : P.info? t' with
              | none => rw [hi] at h1; exact h1
              | some i => rw [hi] at h1; exact h1
            have hne : bs.map Nat.toUInt8 ≠ [] := by
              intro e0
              rw [e0] at hlen
              exact h0' hlen.symm
            have hmax' : n ≤ 9223372036854775807 := Nat.le_of_ble_eq_true hmax
            have hrun := Lib.run_unsafeString_row (P := P) w pt it ty t' hu hcs1 B.b cs.length (shape_of hH) (bs.map Nat.toUInt8) hne (by omega) (by omega) hcell
            have haddr : (⟨B.b, 0 + B.d, none⟩ : Addr) = ⟨B.b, 0, none⟩ := by rw [hd]
            rw [hlen] at hrun
            refine ⟨_, _, by rw [haddr]; exact hrun, ?_, ?_⟩
            · have hfreeze : ∃ fz', w.freeze ⟨B.b, 0, none⟩ n = { w with heap := w.heap.setIfInBounds B.b (.cells cs.toArray t' fz') } := by
                obtain ⟨lo, hi⟩ := fz
                refine ⟨if lo == hi then (0, 0 + n) else (min lo 0, max hi (0 + n)), ?_⟩
                unfold World.freeze
                rw [if_neg h0']
                congr 1
                obtain ⟨hlt, hEq⟩ := Array.getElem?_eq_some_iff.1 hH
                apply Array.ext
                · simp
                · intro j g1 g2
                  by_cases e1 : j = B.b
                  · subst e1
                    rw [Array.getElem_modify_self]
                    simp [hEq]
                  · rw [Array.getElem_modify_of_ne (Ne.symm e1), Array.getElem_setIfInBounds_ne _ (Ne.symm e1)]
              obtain ⟨fz', hfr⟩ := hfreeze
              rw [hfr]
              exact .of (Step.killSet h hce hB hH _ fz')
            · have hs := Conc.s (E := E) ⟨(bs.map Nat.toUInt8).toArray⟩
              have e1 : ((⟨(bs.map Nat.toUInt8).toArray⟩ : ByteArray).data.toList.map UInt8.toNat) = bs := by
                rw [show (⟨(bs.map Nat.toUInt8).toArray⟩ : ByteArray).data.toList = bs.map Nat.toUInt8 by simp]
                exact hbb
              rw [e1] at hs
              exact hs
  · obtain ⟨h0, hb⟩ := bor hb
    cases hb
    have := Nat.eq_of_beq_eq_true h0
    subst this
    cases hp
    exact ⟨_, w, Lib.run_unsafeString_none w pt it ty _, .refl h, empty⟩
  · cases hb

end

end

end Go.Ev
