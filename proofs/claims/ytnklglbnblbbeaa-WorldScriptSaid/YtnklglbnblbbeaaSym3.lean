/-
  What New makes; and what 'append' does to a slice that the call made itself.
-/
import Derived.Test.YtnklglbnblbbeaaSym2
namespace Go.Proofs.Ytnklglbnblbbeaa
open Go.Ev
set_option maxRecDepth 100000
theorem inf45 : hasInfo Try.prog 45 = true := by kernel_rfl
theorem zeroC45 : zeroC Try.prog 45 = some [.cn, .i .i64 0, .i .i64 0, .b false, .sn] := by kernel_rfl
theorem wf45 : wfTy Try.prog 45 = true := by kernel_rfl
theorem el43 : elChan Try.prog 43 = some 5 := by kernel_rfl
theorem by5 : byOf Try.prog 5 = 1 := by kernel_rfl
theorem el26 : elOf Try.prog 26 = some 5 := by kernel_rfl
theorem plain26 : plainArg Try.prog [26, 26] = true := by kernel_rfl
theorem zeroC5 : zeroC Try.prog 5 = some [.i .u8 0] := by kernel_rfl
theorem inf26 : hasInfo Try.prog 26 = true := by kernel_rfl
theorem ag26 : isAg Try.prog 26 = false := by kernel_rfl
theorem sz26 : szOf Try.prog 26 = 1 := by kernel_rfl
theorem fill45 (r : Nat) : opBuild1 Try.prog 45 [(0, .c r)] = fun st => some (.ag [.c r, .i .i64 0, .i .i64 0, .b false, .sn], st) := by
  kernel_rfl

theorem fits5 {n : Nat} (h : n ≤ 10000000) : fits Try.prog 5 n = true := by
  unfold fits
  rw [zeroC5, by5]
  have : Nat.ble ((2 * n + 2000) * 1) 281474976710656 = true := Nat.ble_eq_true_of_le (by omega)
  simp only [this]; rfl

section
variable {st : St} {w ch fed used : Nat} {ended : Bool} {out a v : AV} {buf cells cs : List AV}

theorem Wd.keep {A : List Nat} {st' : St} (h : Wd st w ch fed used ended out buf) (k : Keep A st st') (h1 : w ∉ A) (h2 : ch ∉ A) : Wd st' w ch fed used ended out buf := by
  obtain ⟨al, hc⟩ := h.ce
  exact ⟨⟨al, k.ce hc h.wlt h.wlt h1 h1⟩, by rw [k.get _ h.clt h2, h.chn], Nat.lt_of_lt_of_le h.wlt k.next, Nat.lt_of_lt_of_le h.clt k.next⟩

theorem new_call (st : St) (n : Nat) : ∃ st' w ch, (self Try.prog (n + 1)).call 8 [] st = some (.p w 0, st') ∧ Wd st' w ch 0 0 false .sn [] := by
  have hb : wfTy Try.prog 45 = true := wf45
  have key : (self Try.prog (n + 1)).call 8 [] st = some (.p (st.next + 1) 0, (st.new (.ch 1048576 [])).newCe [.c st.next, .i .i64 0, .i .i64 0, .b false, .sn]) := by
    rw [body_eq Try.func8 rfl (Nat.le_of_ble_eq_true rfl)]
    have e1 : ∀ t : Tr AV, opH (.makeChan 43 (.const (.int .i64 1048576))) Try.prog (self Try.prog n) t st = some (.c st.next, st.new (.ch 1048576 [])) := by
      intro t
      show (match elChan Try.prog 43, some 1048576 with | some e, some n => @Bool.rec (fun _ => Res) none (some (.c st.next, st.new (.ch n []))) (hasInfo Try.prog e && (Nat.ble n 1073741824 && Nat.ble (byOf Try.prog e) 1024)) | _, _ => none) = _
      rw [el43]
      simp only [inf5, by5]
      rfl
    have e2 : ∀ (t : Tr AV) (s : St), tget t 1 = .c st.next → opH (.build 45 #[(0, .tmp 1)]) Try.prog (self Try.prog n) t s = some (.ag [.c st.next, .i .i64 0, .i .i64 0, .b false, .sn], s) := by
      intro t s ht
      show @Bool.rec (fun _ => Res) none (opBuild1 Try.prog 45 (vals t [(0, .tmp 1)]) s) (wfTy Try.prog 45) = _
      rw [wf45]
      show opBuild1 Try.prog 45 [(0, evO t (.tmp 1))] s = _
      rw [evO_tmp, ht, fill45]
    have e3 : ∀ (t : Tr AV) (s : St) (l : List AV), tget t 2 = .ag l → opH (.box 45 (.tmp 2)) Try.prog (self Try.prog n) t s = some (.p s.next 0, s.newCe l) := by
      intro t s l ht
      show allocC s (evO t (.tmp 2)).cells = _
      rw [evO_tmp, ht, cells_ag]; rfl
    simp [Try.f8, e1, e2, e3, resOf_eq, pmapO]
    rfl
  refine ⟨_, _, _, key, ⟨_, newCe_ce _⟩, ?_, Nat.lt_succ_self _, Nat.lt_succ_of_lt (Nat.lt_succ_self _)⟩
  rw [St.get_newCe, if_neg (by show st.next ≠ st.next + 1; omega), St.get_new, if_pos rfl]

/-- What was appended to no slice, again and again. -/
def AllS (st : St) (w ch : Nat) (a : AV) (cs : List AV) : Prop := (a = .sn ∧ cs = []) ∨ ∃ r g al, a = .sl r 0 cs.length 1 none ∧ st.ce r = some (cs, g, al) ∧ r < st.next ∧ g < st.next ∧ r ≠ w ∧ g ≠ w ∧ g ≠ ch

theorem AllS.len (h : AllS st w ch a cs) : lenOf a = some cs.length := by
  rcases h with ⟨rfl, rfl⟩ | ⟨r, g, al, rfl, -⟩ <;> rfl
theorem AllS.text (h : AllS st w ch a cs) : isText a = false := by
  rcases h with ⟨rfl, rfl⟩ | ⟨r, g, al, rfl, -⟩ <;> rfl
theorem AllS.keep {st' : St} (h : AllS st w ch a cs) (hW : Wd st w ch fed used ended out buf) (k : Keep [w, ch] st st') : AllS st' w ch a cs := by
  rcases h with ⟨rfl, rfl⟩ | ⟨r, g, al, rfl, h1, h2, h3, h4, h5, h6⟩
  · exact .inl ⟨rfl, rfl⟩
  · have hr : r ≠ ch := by
      rintro rfl
      have := ce_get h1
      rw [hW.chn] at this; cases this
    exact .inr ⟨r, g, al, rfl, k.ce h1 h2 h3 (by simp [h4, hr]) (by simp [h5, h6]), Nat.lt_of_lt_of_le h2 k.next, Nat.lt_of_lt_of_le h3 k.next, h4, h5, h6⟩

theorem append_all (h : AllS st w ch a cs) (hW : Wd st w ch fed used ended out buf) (hv : IsSl v cells) (hs : ∀ c ∈ cells, ∃ b, c = .i .u8 b) (hn : cs.length + cells.length ≤ 10000000) :
    ∃ a' st', bAppend Try.prog st [26, 26] [a, v] = some (a', st') ∧ AllS st' w ch a' (cs ++ cells) ∧ Wd st' w ch fed used ended out buf := by
  rw [bAppend_sl hv]
  have hall : allSc cells = true := by
    clear hv hn
    induction cells with
    | nil => rfl
    | cons c l ih =>
      obtain ⟨b, hb⟩ := hs c (List.mem_cons_self ..)
      rw [allSc_cons, ih fun c hc => hs c (List.mem_cons_of_mem _ hc), hb]; rfl
  have e0 : (plainArg Try.prog [26, 26] && hasInfo Try.prog 5 && allSc cells) = true := by rw [plain26, inf5, hall]; rfl
  by_cases h0 : cells.length = 0
  · obtain rfl := List.eq_nil_of_length_eq_zero h0
    refine ⟨a, st, ?_, by simpa using h, hW⟩
    unfold append
    simp only [el26, hv.len, sz5, hv.first st, e0]
    rcases h with ⟨rfl, rfl⟩ | ⟨r, g, al, rfl, -⟩ <;> rfl
  · have hb0 : Nat.beq cells.length 0 = false := by rw [nbeq]; simpa using h0
    rcases h with ⟨rfl, rfl⟩ | ⟨r, g, al, rfl, h1, h2, h3, h4, h5, h6⟩
    · refine ⟨.sl st.next 0 cells.length 1 none, st.newCe cells, ?_, .inr ⟨st.next, st.next, _, by simp, by simpa using newCe_ce cells, Nat.lt_succ_self _, Nat.lt_succ_self _, (Nat.ne_of_lt hW.wlt).symm, (Nat.ne_of_lt hW.wlt).symm, (Nat.ne_of_lt hW.clt).symm⟩, hW.keep (.newCe [] _) (by simp) (by simp)⟩
      unfold append
      simp only [el26, hv.len, sz5, hv.first st, e0, hb0, fits5 (show cells.length ≤ 10000000 by omega)]
      rfl
    · obtain ⟨st', k1, ⟨al', k2⟩, k3, k4, k5⟩ := grow_row (new := cells) h1 rfl h3
      refine ⟨_, st', ?_, .inr ⟨st.next, g, al', by rw [List.length_append], k2, by omega, by omega, (Nat.ne_of_lt hW.wlt).symm, h5, h6⟩, ?_⟩
      · unfold append
        simp only [el26, hv.len, sz5, hv.first st, e0, hb0]
        have e1 : Nat.ble (cs.length + cells.length) (roomed st r 0 1) = false := by
          have : roomed st r 0 1 = cs.length := by unfold roomed; rw [h1]; simp
          rw [this, Bool.eq_false_iff]
          intro hh
          have := Nat.le_of_ble_eq_true hh
          omega
        show @Bool.rec (fun _ => Option (AV × St)) none (growAny st r 0 cs.length 1 (cs.length + cells.length) cells (fits Try.prog 5 (cs.length + cells.length))) true = _
        rw [fits5 hn]
        show growAny st r 0 cs.length 1 (cs.length + cells.length) cells true = _
        unfold growAny
        rw [e1]
        exact k1
      · obtain ⟨al2, hc⟩ := hW.ce
        have hwg : w ≠ g := fun e => h5 e.symm
        refine ⟨⟨al2, ?_⟩, by rw [k4 _ hW.clt, hW.chn], by rw [k3]; exact Nat.lt_succ_of_lt hW.wlt, by rw [k3]; exact Nat.lt_succ_of_lt hW.clt⟩
        obtain ⟨c1, c2, c3⟩ := ce_three hc
        unfold St.ce
        rw [k4 _ hW.wlt, c1]
        simp only
        rw [k5 _ hwg, c2]
        simp only [c3]
end
end Go.Proofs.Ytnklglbnblbbeaa
