/-
  What Feed does: of any bytes, where there is room for them.
-/
import Derived.Test.YtnklglbnblbbeaaSym1
namespace Go.Proofs.Ytnklglbnblbbeaa
open Go.Ev
set_option maxRecDepth 100000
section
variable {st : St} {w ch fed used : Nat} {ended : Bool} {out : AV} {buf cells : List AV} {v : AV}
theorem feed_call (h : Wd st w ch fed used false out buf) (hv : IsSl v cells) (h1 : fed + cells.length ≤ 1048576) (h2 : buf.length + cells.length ≤ 1048576) (hs : ∀ c ∈ cells, ∃ b, c = .i .u8 b) (n : Nat) (hn : cells.length ≤ n) :
    ∃ st', (self Try.prog (n + 2)).call 9 [.p w 0, v] st = some (.i .i64 0, st') ∧ Wd st' w ch (fed + cells.length) used false out (buf ++ cells) ∧ Keep [w, ch] st st' := by
  obtain ⟨al, hc⟩ := h.ce
  rw [body_eq Try.func9 rfl (Nat.le_of_ble_eq_true rfl)]
  have e1 : wr .i64 (1048576 - (fed : Int)) = 1048576 - (fed : Int) := wr_in (by omega) (by omega)
  have e2 : wr .i64 ((fed : Int) + (cells.length : Int)) = ((fed + cells.length : Nat) : Int) := by rw [wr_in (by omega) (by omega)]; rfl
  have e3 : ¬ (1048576 - (fed : Int) < (cells.length : Int)) := by omega
  simp only [Try.f9, evC_seq, evC_region, evC_block]
  simp [callF_of Try.func22 rfl, none_call h, off0, off1, off3, load_p inf4 ag4, rd_of hc, load_p inf3 ag3, len_sl Try.underlying26 hv.len hv.text, e1, e2, e3, store_p inf3 sz3, wt_of hc, evC_loop]
  generalize hL : loopC _ _ _ _ = L
  obtain ⟨t', st', rfl, q0, qW, qK⟩ := loop_use hL 1 cells.length
    (fun i t s => tget t 0 = .p w 0 ∧ tget t 33 = v ∧ tget t 34 = .i .i64 (cells.length : Int) ∧ tget t 35 = .i .i64 (i : Int) ∧ Wd s w ch (fed + cells.length) used false out (buf ++ cells.take i) ∧ Keep [w, ch] st s)
    (fun t s => tget t 0 = .p w 0 ∧ Wd s w ch (fed + cells.length) used false out (buf ++ cells) ∧ Keep [w, ch] st s) (by omega)
    (by
      refine ⟨by simp, by simp, by simp, by simp, ?_, .setCe (by simp) (by simp)⟩
      refine ⟨⟨_, setCe_ce _ _ _⟩, ?_, h.wlt, h.clt⟩
      rw [setCe_get h.ne, h.chn]; simp)
    (by
      rintro i t s hi ⟨i0, i33, i34, i35, iW, iK⟩
      obtain rfl : v = .rs cells cells.length 1 := by
        rcases hv with ⟨rfl, rfl⟩ | hv
        · exact absurd hi (by simp)
        · exact hv
      obtain ⟨al', ic⟩ := iW.ce
      obtain ⟨b, hb⟩ := hs cells[i] (List.getElem_mem hi)
      have hd : cells.drop i = .i .u8 b :: cells.drop (i + 1) := by rw [← hb]; exact List.drop_eq_getElem_cons hi
      have ht : cells.take (i + 1) = cells.take i ++ [.i .u8 b] := by rw [← hb]; exact (List.take_append_getElem hi).symm
      have e4 : wr .i64 ((i : Int) + 1) = ((i + 1 : Nat) : Int) := by rw [wr_in (by omega) (by omega)]; rfl
      have e5 : (i : Int) < (cells.length : Int) := by omega
      have hl : (buf ++ cells.take i).length < 1048576 := by simp; omega
      simp [i0, i33, i34, i35, e4, e5, index_rs Try.underlying26 inf5 sz5, hi, load_rp inf5 ag5, hd, off0, load_p inf43 ag43, rd_of ic, sendOf_c iW.chn hl]
      refine ⟨_, _, ⟨rfl, rfl⟩, by simp [i0], by simp [i33], by simp [i34], by simp, ⟨⟨al', ?_⟩, ?_, iW.wlt, iW.clt⟩, iK.trans (.put (by simp))⟩
      · rw [put_ce (Ne.symm iW.ne)]; simpa using ic
      · rw [put_get, ht])
    (by
      rintro t s ⟨i0, i33, i34, i35, iW, iK⟩
      simp [i34, i35]
      refine ⟨_, _, ⟨rfl, rfl⟩, by simp [i0], ?_, iK⟩
      simpa using iW)
  simp [resOf_eq, pmapO]
  exact ⟨qW, qK⟩
end
end Go.Proofs.Ytnklglbnblbbeaa
