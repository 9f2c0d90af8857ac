/-
  What the calls of a world do, whatever the world is: Used, Get, End, Left, Ended, for every state of the abstract memory in which the world has its row.
-/
import Derived.Test.YtnklglbnblbbeaaEvSym
import Derived.Test.YtnklglbnblbbeaaChecked
import Derived.KernelRfl
namespace Go.Proofs.Ytnklglbnblbbeaa
open Go.Ev
set_option maxRecDepth 100000

theorem off0 : fieldOff Try.prog 45 0 = some 0 := by kernel_rfl
theorem off1 : fieldOff Try.prog 45 1 = some 1 := by kernel_rfl
theorem off2 : fieldOff Try.prog 45 2 = some 2 := by kernel_rfl
theorem off3 : fieldOff Try.prog 45 3 = some 3 := by kernel_rfl
theorem off4 : fieldOff Try.prog 45 4 = some 4 := by kernel_rfl
theorem inf43 : hasInfo Try.prog 43 = true := by kernel_rfl
theorem ag43 : isAg Try.prog 43 = false := by kernel_rfl
theorem inf3 : hasInfo Try.prog 3 = true := by kernel_rfl
theorem ag3 : isAg Try.prog 3 = false := by kernel_rfl
theorem sz3 : szOf Try.prog 3 = 1 := by kernel_rfl
theorem inf4 : hasInfo Try.prog 4 = true := by kernel_rfl
theorem ag4 : isAg Try.prog 4 = false := by kernel_rfl
theorem sz4 : szOf Try.prog 4 = 1 := by kernel_rfl
theorem inf5 : hasInfo Try.prog 5 = true := by kernel_rfl
theorem ag5 : isAg Try.prog 5 = false := by kernel_rfl
theorem sz5 : szOf Try.prog 5 = 1 := by kernel_rfl
theorem zero5 : zeroOf Try.prog 5 = some (.i .u8 0) := by kernel_rfl

/-- A world in its row: its channel, how many bytes were fed and used, has it a mark, what was written. -/
structure Wd (st : St) (w ch : Nat) (fed used : Nat) (ended : Bool) (out : AV) (buf : List AV) : Prop where
  ce : ∃ al, st.ce w = some ([.c ch, .i .i64 (fed : Int), .i .i64 (used : Int), .b ended, out], w, al)
  chn : st.get ch = some (.ch 1048576 buf)
  wlt : w < st.next
  clt : ch < st.next

section
variable {st : St} {w ch fed used : Nat} {ended : Bool} {out : AV} {buf : List AV}
theorem Wd.ne (h : Wd st w ch fed used ended out buf) : ch ≠ w := by
  rintro rfl
  obtain ⟨al, h1⟩ := h.ce
  have := ce_get h1
  rw [h.chn] at this; cases this

theorem none_call (h : Wd st w ch fed used ended out buf) (n : Nat) : (self Try.prog (n + 1)).call 22 [.p w 0] st = some (.b false, st) := by
  obtain ⟨al, h⟩ := h.ce
  rw [body_eq Try.func22 rfl (Nat.le_of_ble_eq_true rfl)]
  simp [Try.f22, ptr_eql Try.underlying24, chan_eql Try.underlying43, off0, load_p inf43 ag43, rd_of h, resOf_eq, pmapO]

theorem used_call (h : Wd st w ch fed used ended out buf) (n : Nat) : (self Try.prog (n + 2)).call 10 [.p w 0] st = some (.i .i64 (used : Int), st) := by
  obtain ⟨al, h1⟩ := h.ce
  rw [body_eq Try.func10 rfl (Nat.le_of_ble_eq_true rfl)]
  simp [Try.f10, callF_of Try.func22 rfl, none_call h, off2, load_p inf3 ag3, rd_of h1, resOf_eq, pmapO]

theorem lack_call (h : Wd st w ch fed used ended out buf) (n : Nat) : (self Try.prog (n + 1)).call 23 [.p w 0] st = some (.i .i64 (if ended then 2 else 3), st) := by
  obtain ⟨al, h1⟩ := h.ce
  rw [body_eq Try.func23 rfl (Nat.le_of_ble_eq_true rfl)]
  cases ended <;> simp [Try.f23, off3, load_p inf4 ag4, rd_of h1, resOf_eq, pmapO]

theorem left_call (h : Wd st w ch fed used ended out buf) (n : Nat) : (self Try.prog (n + 2)).call 13 [.p w 0] st = some (.i .i64 (buf.length : Int), st) := by
  obtain ⟨al, h1⟩ := h.ce
  rw [body_eq Try.func13 rfl (Nat.le_of_ble_eq_true rfl)]
  simp [Try.f13, callF_of Try.func22 rfl, none_call h, off0, load_p inf43 ag43, rd_of h1, len_ch Try.underlying43 h.chn, resOf_eq, pmapO]

theorem ended_call (h : Wd st w ch fed used ended out buf) (n : Nat) : (self Try.prog (n + 2)).call 14 [.p w 0] st = some (.b ended, st) := by
  obtain ⟨al, h1⟩ := h.ce
  rw [body_eq Try.func14 rfl (Nat.le_of_ble_eq_true rfl)]
  simp [Try.f14, callF_of Try.func22 rfl, none_call h, off3, load_p inf4 ag4, rd_of h1, resOf_eq, pmapO]

theorem end_call (h : Wd st w ch fed used false out buf) (n : Nat) : ∃ st', (self Try.prog (n + 2)).call 12 [.p w 0] st = some (.i .i64 0, st') ∧ Wd st' w ch fed used true out buf ∧ Keep [w, ch] st st' := by
  obtain ⟨al, h1⟩ := h.ce
  have key : (self Try.prog (n + 2)).call 12 [.p w 0] st = some (.i .i64 0, st.setCe w [.c ch, .i .i64 (fed : Int), .i .i64 (used : Int), .b true, out] w) := by
    rw [body_eq Try.func12 rfl (Nat.le_of_ble_eq_true rfl)]
    simp [Try.f12, callF_of Try.func22 rfl, none_call h, off3, load_p inf4 ag4, rd_of h1, resOf_eq, pmapO, store_p inf4 sz4, wt_of h1]
  refine ⟨_, key, ⟨⟨_, setCe_ce _ _ _⟩, ?_, h.wlt, h.clt⟩, .setCe (by simp) (by simp)⟩
  rw [setCe_get h.ne, h.chn]

theorem get_some (v : AV) (h : Wd st w ch fed used ended out (v :: buf)) (hu : used < 2000000) (n : Nat) :
    ∃ st', (self Try.prog (n + 2)).call 11 [.p w 0] st = some (.tu [v, .i .i64 1, .i .i64 0], st') ∧ Wd st' w ch fed (used + 1) ended out buf ∧ Keep [w, ch] st st' := by
  obtain ⟨al, h1⟩ := h.ce
  have h2 : (st.put ch (.ch 1048576 buf)).ce w = _ := (put_ce (Ne.symm h.ne)).trans h1
  have key : (self Try.prog (n + 2)).call 11 [.p w 0] st = some (.tu [v, .i .i64 1, .i .i64 0], (st.put ch (.ch 1048576 buf)).setCe w [.c ch, .i .i64 (fed : Int), .i .i64 ((used + 1 : Nat) : Int), .b ended, out] w) := by
    rw [body_eq Try.func11 rfl (Nat.le_of_ble_eq_true rfl)]
    simp [Try.f11, callF_of Try.func22 rfl, none_call h, off0, off2, load_p inf43 ag43, rd_of h1, rd_of h2, load_p inf3 ag3, resOf_eq, pmapO, store_p inf3 sz3, wt_of h2, zero5, take_some h.chn,
    wr_in (n := (used : Int) + 1) (by omega) (by omega)]
  refine ⟨_, key, ⟨⟨_, setCe_ce _ _ _⟩, ?_, h.wlt, h.clt⟩, (Keep.put (by simp)).trans (.setCe (by simp) (by simp))⟩
  rw [setCe_get h.ne, put_get]

theorem get_none (h : Wd st w ch fed used ended out []) (n : Nat) :
    (self Try.prog (n + 2)).call 11 [.p w 0] st = some (.tu [.i .u8 0, .i .i64 (if ended then 2 else 3), .i .i64 0], st) := by
  obtain ⟨al, h1⟩ := h.ce
  rw [body_eq Try.func11 rfl (Nat.le_of_ble_eq_true rfl)]
  simp [Try.f11, callF_of Try.func22 rfl, callF_of Try.func23 rfl, none_call h, lack_call h, off0, off2, load_p inf43 ag43, rd_of h1, resOf_eq, pmapO, zero5, take_none h.chn]
end
end Go.Proofs.Ytnklglbnblbbeaa
