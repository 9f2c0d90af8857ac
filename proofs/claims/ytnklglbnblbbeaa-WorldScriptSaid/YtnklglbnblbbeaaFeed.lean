/-
  What the calls of a world do, whatever the world is, of any bytes: Feed, Put, Out, Eof, End; and bytes.Clone.
-/
import Derived.Test.YtnklglbnblbbeaaSym3
import Derived.Test.YtnklglbnblbbeaaEvSym2
namespace Go.Proofs.Ytnklglbnblbbeaa
open Go.Ev
set_option maxRecDepth 100000

theorem bt26 : ByteTy Try.prog 26 5 := ⟨Try.underlying26, inf5, sz5, ag5, plain26, fun _ h => fits5 h⟩

section
variable {st : St} {w ch fed used : Nat} {ended : Bool} {out a v : AV} {buf cells cs : List AV} {X : List Nat}

theorem Wd.kp {A B : List Nat} {st' : St} (h : Wd st w ch fed used ended out buf) (k : Kp A B st st') (h1 : w ∉ A) (h2 : ch ∉ A) (h3 : w ∉ B) : Wd st' w ch fed used ended out buf := by
  obtain ⟨al, hc⟩ := h.ce
  exact ⟨⟨al, k.ce hc h.wlt h.wlt h1 h3⟩, by rw [k.get _ h.clt h2, h.chn], Nat.lt_of_lt_of_le h.wlt k.next, Nat.lt_of_lt_of_le h.clt k.next⟩

theorem end_over (h : Wd st w ch fed used true out buf) (n : Nat) : (self Try.prog (n + 2)).call 12 [.p w 0] st = some (.i .i64 11, st) := by
  obtain ⟨al, h1⟩ := h.ce
  rw [body_eq Try.func12 rfl (Nat.le_of_ble_eq_true rfl)]
  simp [Try.f12, callF_of Try.func22 rfl, none_call h, off3, load_p inf4 ag4, rd_of h1, resOf_eq, pmapO]

theorem eof_call (h : Wd st w ch fed used ended out buf) (n : Nat) :
    (self Try.prog (n + 2)).call 19 [.p w 0] st = some (.tu [.i .i64 (if 0 < buf.length then 1 else if ended then 2 else 3), .i .i64 0], st) := by
  obtain ⟨al, h1⟩ := h.ce
  rw [body_eq Try.func19 rfl (Nat.le_of_ble_eq_true rfl)]
  by_cases hb : 0 < buf.length
  · have e1 : (0 : Int) < (buf.length : Int) := by omega
    simp [Try.f19, callF_of Try.func22 rfl, none_call h, off0, load_p inf43 ag43, rd_of h1, len_ch Try.underlying43 h.chn, resOf_eq, pmapO, hb, e1]
  · have e1 : ¬ (0 : Int) < (buf.length : Int) := by omega
    simp [Try.f19, callF_of Try.func22 rfl, callF_of Try.func23 rfl, none_call h, lack_call h, off0, load_p inf43 ag43, rd_of h1, len_ch Try.underlying43 h.chn, resOf_eq, pmapO, hb, e1]

theorem feed_over (h : Wd st w ch fed used true out buf) (n : Nat) : (self Try.prog (n + 2)).call 9 [.p w 0, v] st = some (.i .i64 11, st) := by
  obtain ⟨al, hc⟩ := h.ce
  rw [body_eq Try.func9 rfl (Nat.le_of_ble_eq_true rfl)]
  simp [Try.f9, callF_of Try.func22 rfl, none_call h, off3, load_p inf4 ag4, rd_of hc, resOf_eq, pmapO]

theorem feed_long (h : Wd st w ch fed used false out buf) (hv : Rd st X v cells) (hf : fed ≤ 1048576) (h1 : 1048576 < fed + cells.length) (n : Nat) : (self Try.prog (n + 2)).call 9 [.p w 0, v] st = some (.i .i64 3, st) := by
  obtain ⟨al, hc⟩ := h.ce
  rw [body_eq Try.func9 rfl (Nat.le_of_ble_eq_true rfl)]
  have e1 : wr .i64 (1048576 - (fed : Int)) = 1048576 - (fed : Int) := wr_in (by omega) (by omega)
  have e3 : 1048576 - (fed : Int) < (cells.length : Int) := by omega
  simp [Try.f9, callF_of Try.func22 rfl, none_call h, off1, off3, load_p inf4 ag4, load_p inf3 ag3, rd_of hc, len_sl Try.underlying26 hv.len hv.text, e1, e3, resOf_eq, pmapO]

theorem feed_rd (h : Wd st w ch fed used false out buf) (hv : Rd st [w, ch] v cells) (h1 : fed + cells.length ≤ 1048576) (h2 : buf.length + cells.length ≤ 1048576) (n : Nat) (hn : cells.length ≤ n) :
    ∃ st', (self Try.prog (n + 2)).call 9 [.p w 0, v] st = some (.i .i64 0, st') ∧ Wd st' w ch (fed + cells.length) used false out (buf ++ cells) ∧ Kp [w, ch] [w] st st' := by
  obtain ⟨al, hc⟩ := h.ce
  rw [body_eq Try.func9 rfl (Nat.le_of_ble_eq_true rfl)]
  have e1 : wr .i64 (1048576 - (fed : Int)) = 1048576 - (fed : Int) := wr_in (by omega) (by omega)
  have e2 : wr .i64 ((fed : Int) + (cells.length : Int)) = ((fed + cells.length : Nat) : Int) := by rw [wr_in (by omega) (by omega)]; rfl
  have e3 : ¬ (1048576 - (fed : Int) < (cells.length : Int)) := by omega
  simp only [Try.f9, evC_seq, evC_region, evC_block]
  simp [callF_of Try.func22 rfl, none_call h, off0, off1, off3, load_p inf4 ag4, rd_of hc, load_p inf3 ag3, len_sl Try.underlying26 hv.len hv.text, e1, e2, e3, store_p inf3 sz3, wt_of hc, evC_loop]
  generalize hL : loopC _ _ _ _ = L
  obtain ⟨t', st', rfl, q0, qW, qK⟩ := loop_use hL 1 cells.length
    (fun i t s => tget t 0 = .p w 0 ∧ tget t 33 = v ∧ tget t 34 = .i .i64 (cells.length : Int) ∧ tget t 35 = .i .i64 (i : Int) ∧ Wd s w ch (fed + cells.length) used false out (buf ++ cells.take i) ∧ Kp [w, ch] [w] st s)
    (fun t s => tget t 0 = .p w 0 ∧ Wd s w ch (fed + cells.length) used false out (buf ++ cells) ∧ Kp [w, ch] [w] st s) (by omega)
    (by
      refine ⟨by simp, by simp, by simp, by simp, ?_, .setCe (by simp) (by simp)⟩
      refine ⟨⟨_, setCe_ce _ _ _⟩, ?_, h.wlt, h.clt⟩
      rw [setCe_get h.ne, h.chn]; simp)
    (by
      rintro i t s hi ⟨i0, i33, i34, i35, iW, iK⟩
      clear hL
      obtain ⟨al', ic⟩ := iW.ce
      obtain ⟨ad, a1, a2⟩ := (hv.keep iK (fun _ h => h) (by simp)).at bt26 hi
      have ht : cells.take (i + 1) = cells.take i ++ [cells[i]] := (List.take_append_getElem hi).symm
      have e4 : wr .i64 ((i : Int) + 1) = ((i + 1 : Nat) : Int) := by rw [wr_in (by omega) (by omega)]; rfl
      have e5 : (i : Int) < (cells.length : Int) := by omega
      have hl : (buf ++ cells.take i).length < 1048576 := by simp; omega
      simp [i0, i33, i34, i35, e4, e5, a1, a2, off0, load_p inf43 ag43, rd_of ic, sendOf_c iW.chn hl]
      refine ⟨_, _, ⟨rfl, rfl⟩, by simp [i0], by simp [i33], by simp [i34], by simp, ⟨⟨al', ?_⟩, ?_, iW.wlt, iW.clt⟩, iK.trans (.put (by simp))⟩
      · rw [put_ce (Ne.symm iW.ne)]; simpa using ic
      · rw [put_get, ht])
    (by
      rintro t s ⟨i0, i33, i34, i35, iW, iK⟩
      simp [i34, i35]
      refine ⟨_, _, ⟨rfl, rfl⟩, by simp [i0], ?_, iK⟩
      simpa using iW)
  simp [resOf_eq, pmapO]
  exact ⟨qW, qK⟩
end
end Go.Proofs.Ytnklglbnblbbeaa

/-
  What the calls of a world do, whatever the world is: Put, Out; bytes.Clone; Bytes; SameBytes.
-/
namespace Go.Proofs.Ytnklglbnblbbeaa
open Go.Ev
set_option maxRecDepth 100000

theorem el26b : elOf Try.prog 26 = some 5 := el26
theorem build0 (t : Tr AV) (st : St) (S : Self) : opH (.buildSlice 26 0 #[]) Try.prog S t st = some (.sl st.next 0 0 1 (some 0), st.newCe []) := by
  show (match elOf Try.prog 26 with | none => none | some e => match zeroC Try.prog e with | none => none | some z => (@Bool.rec (fun _ => _) none (newSl st 0 (szOf Try.prog e) (fill (placeE (szOf Try.prog e)) (rep 0 z) (vals t []))) (Nat.ble (0 * szOf Try.prog e) 16777216))) = _
  rw [el26]
  simp only [zeroC5, sz5]
  rfl
theorem build1 (t : Tr AV) (st : St) (S : Self) (o : Operand) (b : Int) (h : evO t o = .i .u8 b) : opH (.buildSlice 26 1 #[(0, o)]) Try.prog S t st = some (.sl st.next 0 1 1 (some 1), st.newCe [.i .u8 b]) := by
  show (match elOf Try.prog 26 with | none => none | some e => match zeroC Try.prog e with | none => none | some z => (@Bool.rec (fun _ => _) none (newSl st 1 (szOf Try.prog e) (fill (placeE (szOf Try.prog e)) (rep 1 z) [(0, evO t o)])) (Nat.ble (1 * szOf Try.prog e) 16777216))) = _
  rw [el26]
  simp only [zeroC5, sz5, h]
  rfl
theorem sl_eql (c : Bool) (r o n z : Nat) (k : Option Nat) : Go.Ev.binOp Try.prog 26 c .eql (.sl r o n z k) .sn = some (.b false) := by
  show eqOp Try.prog 26 c .eql (.sl r o n z k) .sn = _
  simp [eqOp, eqV, eqT1, Try.underlying26, eqNil, AV.nilS, orElse]
theorem sn_eql (c : Bool) : Go.Ev.binOp Try.prog 26 c .eql .sn .sn = some (.b true) := by
  show eqOp Try.prog 26 c .eql .sn .sn = _
  simp [eqOp, eqV, eqT1, Try.underlying26, eqNil, AV.nilS, orElse]

section
variable {st : St} {w ch fed used : Nat} {ended : Bool} {out a v : AV} {buf cells cs : List AV} {X : List Nat} {g : Option Nat}

theorem ow_fresh (st : St) : Ow (st.newCe []) X (.sl st.next 0 0 1 (some 0)) [] none := .inr (.inl ⟨_, rfl, rfl, rfl⟩)

theorem clone_call (h : Ow st X a cs g) (hb : ∀ c ∈ cs, ∃ b, c = .i .u8 b) (hn : cs.length ≤ 10000000) (hX : ∀ x ∈ X, x < st.next) (n : Nat) :
    ∃ a' st', (self Try.prog (n + 1)).call 32 [a] st = some (a', st') ∧ Rd st' X a' cs ∧ Kp [] [] st st' := by
  rw [body_eq Try.func32 rfl (Nat.le_of_ble_eq_true rfl)]
  by_cases hs : a = .sn
  · subst hs
    refine ⟨.sn, st, ?_, h.rd, .refl _ _ _⟩
    simp [Try.f32, sn_eql, resOf_eq, pmapO]
  · have hsl : ∃ r o n z k, a = .sl r o n z k := by
      rcases h with ⟨rfl, -⟩ | ⟨r, rfl, -⟩ | ⟨r, f, al, -, rfl, -⟩
      · exact absurd rfl hs
      · exact ⟨_, _, _, _, _, rfl⟩
      · exact ⟨_, _, _, _, _, rfl⟩
    have hX' : ∀ x ∈ X, x < (st.newCe []).next := fun x hx => Nat.lt_succ_of_lt (hX x hx)
    obtain ⟨a', g', st', k1, k2, k3, k4⟩ := append_own (X := X) bt26 (ow_fresh st) (h.rd.keep (.newCe [] [] []) (by simp) (by simp)) hb (by simpa using hn) hX'
    obtain ⟨r, o, m, z, k, rfl⟩ := hsl
    refine ⟨a', st', ?_, by simpa using k2.rd, (Kp.newCe [] [] []).trans k3⟩
    simp [Try.f32, sl_eql, build0, k1, resOf_eq, pmapO]

theorem out_call (h : Wd st w ch fed used ended out buf) (hO : Ow st X out cs g) (hb : ∀ c ∈ cs, ∃ b, c = .i .u8 b) (hn : cs.length ≤ 10000000) (hX : ∀ x ∈ X, x < st.next) (n : Nat) :
    ∃ a' st', (self Try.prog (n + 2)).call 21 [.p w 0] st = some (a', st') ∧ Rd st' X a' cs ∧ Kp [] [] st st' := by
  obtain ⟨al, hc⟩ := h.ce
  obtain ⟨a', st', k1, k2, k3⟩ := clone_call hO hb hn hX n
  refine ⟨a', st', ?_, k2, k3⟩
  rw [body_eq Try.func21 rfl (Nat.le_of_ble_eq_true rfl)]
  simp [Try.f21, callF_of Try.func22 rfl, callF_of Try.func32 rfl, none_call h, off4, load_p inf26 ag26, rd_of hc, k1, resOf_eq, pmapO]

theorem put_long (h : Wd st w ch fed used ended out buf) (hO : Ow st X out cs g) (hl : 1048576 ≤ cs.length) (n : Nat) : (self Try.prog (n + 2)).call 20 [.p w 0, v] st = some (.i .i64 3, st) := by
  obtain ⟨al, hc⟩ := h.ce
  have e1 : (1048576 : Int) ≤ (cs.length : Int) := by omega
  rw [body_eq Try.func20 rfl (Nat.le_of_ble_eq_true rfl)]
  simp [Try.f20, callF_of Try.func22 rfl, none_call h, off4, load_p inf26 ag26, rd_of hc, len_sl Try.underlying26 hO.rd.len hO.rd.text, e1, resOf_eq, pmapO]

theorem put_call {b : Int} (h : Wd st w ch fed used ended out buf) (hO : Ow st X out cs g) (hw : w ∈ X) (hc : ch ∈ X) (hX : ∀ x ∈ X, x < st.next) (hl : cs.length < 1048576) (n : Nat) :
    ∃ out' g' st', (self Try.prog (n + 2)).call 20 [.p w 0, .i .u8 b] st = some (.i .i64 0, st') ∧ Wd st' w ch fed used ended out' buf ∧ Ow st' X out' (cs ++ [.i .u8 b]) g' ∧ Kp [w] (w :: g.toList) st st' ∧ (g' = g ∨ ∃ y, g' = some y ∧ st.next ≤ y) := by
  obtain ⟨al, hce⟩ := h.ce
  have hX' : ∀ x ∈ X, x < (st.newCe [.i .u8 b]).next := fun x hx => Nat.lt_succ_of_lt (hX x hx)
  have hnX : st.next ∉ X := fun hh => Nat.lt_irrefl _ (hX _ hh)
  have hR : Rd (st.newCe [.i .u8 b]) X (.sl st.next 0 1 1 (some 1)) [.i .u8 b] := .inr (.inr ⟨st.next, some 1, [.i .u8 b], st.next, _, rfl, newCe_ce _, rfl, Nat.lt_succ_self _, Nat.lt_succ_self _, hnX, hnX⟩)
  obtain ⟨out', g', s1, k1, k2, k3, k4⟩ := append_own bt26 (hO.keep (.newCe [] [] _) (by simp) (by simp)) hR (by simp) (by simp; omega) hX'
  have hgw : w ∉ g.toList := by
    rcases hO with ⟨-, -, rfl⟩ | ⟨r, -, -, rfl⟩ | ⟨r, f, al, rfl, -, -, -, -, -, h5⟩
    · simp
    · simp
    · intro hh; simp at hh; exact h5 (hh ▸ hw)
  have hW1 : Wd s1 w ch fed used ended out buf := (h.kp (.newCe [] [] _) (by simp) (by simp) (by simp)).kp k3 (by simp) (by simp) hgw
  obtain ⟨al1, hc1⟩ := hW1.ce
  have hsc : isSc out' = true := by
    rcases k2 with ⟨rfl, -⟩ | ⟨r, rfl, -⟩ | ⟨r, f, al, -, rfl, -⟩ <;> rfl
  have hcl : out'.cells = some [out'] := by
    rcases k2 with ⟨rfl, -⟩ | ⟨r, rfl, -⟩ | ⟨r, f, al, -, rfl, -⟩ <;> simp
  have e1 : ¬ (1048576 : Int) ≤ (cs.length : Int) := by omega
  have key : (self Try.prog (n + 2)).call 20 [.p w 0, .i .u8 b] st = some (.i .i64 0, s1.setCe w [.c ch, .i .i64 (fed : Int), .i .i64 (used : Int), .b ended, out'] w) := by
    rw [body_eq Try.func20 rfl (Nat.le_of_ble_eq_true rfl)]
    simp [Try.f20, callF_of Try.func22 rfl, none_call h, off4, load_p inf26 ag26, rd_of hce, len_sl Try.underlying26 hO.rd.len hO.rd.text, e1, build1 _ _ _ _ b, k1, store_p inf26 sz26, hcl, wt_of hc1, hsc, resOf_eq, pmapO]
  refine ⟨out', g', _, key, ⟨⟨_, setCe_ce _ _ _⟩, ?_, hW1.wlt, hW1.clt⟩, ?_, ?_, ?_⟩
  · rw [setCe_get hW1.ne, hW1.chn]
  · exact k2.keep (.setCe (A := [w]) (B := [w]) (by simp) (by simp)) (fun x hx => by simp at hx; exact hx ▸ hw) (fun x hx => by simp at hx; exact .inl (hx ▸ hw))
  · exact ((Kp.newCe [w] (w :: g.toList) _).trans (k3.sub (by simp) fun x hx => List.mem_cons_of_mem _ hx)).trans (.setCe (by simp) (by simp))
  · rcases k4 with rfl | rfl
    · exact .inl rfl
    · exact .inr ⟨_, rfl, Nat.le_succ _⟩
end
end Go.Proofs.Ytnklglbnblbbeaa

/-
  What the calls of the document's world do, whatever that world is: New, Feed, End, Eof, Get, Put, Left.
-/
namespace Go.Proofs.Ytnklglbnblbbeaa
open Go.Ev
set_option maxRecDepth 100000

theorem roff0 : fieldOff Try.prog 53 0 = some 0 := by kernel_rfl
theorem roff1 : fieldOff Try.prog 53 1 = some 1 := by kernel_rfl
theorem roff2 : fieldOff Try.prog 53 2 = some 2 := by kernel_rfl
theorem roff3 : fieldOff Try.prog 53 3 = some 3 := by kernel_rfl
theorem wf53 : wfTy Try.prog 53 = true := by kernel_rfl
theorem build53 : opBuild1 Try.prog 53 [] = fun st => some (.ag [.sn, .i .i64 0, .b false, .sn], st) := by kernel_rfl

/-- The document's world in its row. -/
structure Rw (st : St) (r : Nat) (inn : AV) (read : Nat) (mark : Bool) (wrote : AV) : Prop where
  ce : ∃ al, st.ce r = some ([inn, .i .i64 (read : Int), .b mark, wrote], r, al)
  lt : r < st.next

section
variable {st : St} {r read : Nat} {mark : Bool} {inn wrote a v : AV} {cells cs ci cw : List AV} {X : List Nat} {g gi gw : Option Nat}

theorem Rw.kp {A B : List Nat} {st' : St} (h : Rw st r inn read mark wrote) (k : Kp A B st st') (h1 : r ∉ A) (h2 : r ∉ B) : Rw st' r inn read mark wrote := by
  obtain ⟨al, hc⟩ := h.ce
  exact ⟨⟨al, k.ce hc h.lt h.lt h1 h2⟩, Nat.lt_of_lt_of_le h.lt k.next⟩

theorem rnew_call (st : St) (n : Nat) : ∃ st', (self Try.prog (n + 1)).call 16 [] st = some (.p st.next 0, st') ∧ Rw st' st.next .sn 0 false .sn ∧ Kp [] [] st st' := by
  have key : (self Try.prog (n + 1)).call 16 [] st = some (.p st.next 0, st.newCe [.sn, .i .i64 0, .b false, .sn]) := by
    rw [body_eq Try.func16 rfl (Nat.le_of_ble_eq_true rfl)]
    have e2 : ∀ (t : Tr AV) (s : St), opH (.build 53 #[]) Try.prog (self Try.prog n) t s = some (.ag [.sn, .i .i64 0, .b false, .sn], s) := by
      intro t s
      show @Bool.rec (fun _ => Res) none (opBuild1 Try.prog 53 [] s) (wfTy Try.prog 53) = _
      rw [wf53, build53]
    have e3 : ∀ (t : Tr AV) (s : St) (l : List AV), tget t 1 = .ag l → opH (.box 53 (.tmp 1)) Try.prog (self Try.prog n) t s = some (.p s.next 0, s.newCe l) := by
      intro t s l ht
      show allocC s (evO t (.tmp 1)).cells = _
      rw [evO_tmp, ht, cells_ag]; rfl
    simp [Try.f16, e2, e3, resOf_eq, pmapO]
  exact ⟨_, key, ⟨⟨_, newCe_ce _⟩, Nat.lt_succ_self _⟩, .newCe _ _ _⟩

theorem rend_over (h : Rw st r inn read true wrote) (n : Nat) : (self Try.prog (n + 1)).call 26 [.p r 0] st = some (.i .i64 11, st) := by
  obtain ⟨al, h1⟩ := h.ce
  rw [body_eq Try.func26 rfl (Nat.le_of_ble_eq_true rfl)]
  simp [Try.f26, roff2, load_p inf4 ag4, rd_of h1, resOf_eq, pmapO]

theorem rend_call (h : Rw st r inn read false wrote) (n : Nat) : ∃ st', (self Try.prog (n + 1)).call 26 [.p r 0] st = some (.i .i64 0, st') ∧ Rw st' r inn read true wrote ∧ Kp [r] [r] st st' := by
  obtain ⟨al, h1⟩ := h.ce
  have key : (self Try.prog (n + 1)).call 26 [.p r 0] st = some (.i .i64 0, st.setCe r [inn, .i .i64 (read : Int), .b true, wrote] r) := by
    rw [body_eq Try.func26 rfl (Nat.le_of_ble_eq_true rfl)]
    simp [Try.f26, roff2, load_p inf4 ag4, rd_of h1, store_p inf4 sz4, wt_of h1, resOf_eq, pmapO]
  exact ⟨_, key, ⟨⟨_, setCe_ce _ _ _⟩, h.lt⟩, .setCe (by simp) (by simp)⟩

theorem reof_call (h : Rw st r inn read mark wrote) (hi : Rd st X inn ci) (n : Nat) :
    (self Try.prog (n + 1)).call 28 [.p r 0] st = some (.i .i64 (if read < ci.length then 1 else if mark then 2 else 3), st) := by
  obtain ⟨al, h1⟩ := h.ce
  rw [body_eq Try.func28 rfl (Nat.le_of_ble_eq_true rfl)]
  simp [Try.f28, evC_draw]
  rw [drawC_nil]
  · by_cases hl : read < ci.length
    · simp [roff0, roff1, roff2, load_p inf3 ag3, load_p inf4 ag4, load_p inf26 ag26, rd_of h1, len_sl Try.underlying26 hi.len hi.text, hl, resOf_eq, pmapO]
    · cases mark <;> simp [roff0, roff1, roff2, load_p inf3 ag3, load_p inf4 ag4, load_p inf26 ag26, rd_of h1, len_sl Try.underlying26 hi.len hi.text, hl, resOf_eq, pmapO]
  · kernel_rfl

theorem rleft_call (h : Rw st r inn read mark wrote) (hi : Rd st X inn ci) (h1 : read ≤ ci.length) (h2 : ci.length ≤ 10000000) (n : Nat) :
    (self Try.prog (n + 1)).call 31 [.p r 0] st = some (.i .i64 ((ci.length - read : Nat) : Int), st) := by
  obtain ⟨al, hc⟩ := h.ce
  have e1 : wr .i64 ((ci.length : Int) - (read : Int)) = ((ci.length - read : Nat) : Int) := by rw [wr_in (by omega) (by omega)]; omega
  rw [body_eq Try.func31 rfl (Nat.le_of_ble_eq_true rfl)]
  simp [Try.f31, evC_draw]
  rw [drawC_nil]
  · simp [roff0, roff1, load_p inf3 ag3, load_p inf26 ag26, rd_of hc, len_sl Try.underlying26 hi.len hi.text, e1, resOf_eq, pmapO]
  · kernel_rfl

theorem rget_none (h : Rw st r inn read mark wrote) (hi : Rd st X inn ci) (hl : ¬ read < ci.length) (n : Nat) :
    (self Try.prog (n + 2)).call 27 [.p r 0] st = some (.tu [.i .u8 0, .i .i64 (if mark then 2 else 3)], st) := by
  rw [body_eq Try.func27 rfl (Nat.le_of_ble_eq_true rfl)]
  cases mark <;> simp [Try.f27, callF_of Try.func28 rfl, reof_call h hi, hl, resOf_eq, pmapO]

theorem rget_some (h : Rw st r inn read mark wrote) (hi : Rd st X inn ci) (hX : r ∈ X) (hl : read < ci.length) (h2 : ci.length ≤ 10000000) (n : Nat) :
    ∃ st', (self Try.prog (n + 2)).call 27 [.p r 0] st = some (.tu [ci[read], .i .i64 1], st') ∧ Rw st' r inn (read + 1) mark wrote ∧ Kp [r] [r] st st' := by
  obtain ⟨al, hc⟩ := h.ce
  let s1 := st.setCe r [inn, .i .i64 ((read + 1 : Nat) : Int), .b mark, wrote] r
  have hk : Kp [r] [r] st s1 := .setCe (by simp) (by simp)
  have hR : Rw s1 r inn (read + 1) mark wrote := ⟨⟨_, setCe_ce _ _ _⟩, h.lt⟩
  obtain ⟨al1, hc1⟩ := hR.ce
  obtain ⟨ad, a1, a2⟩ := (hi.keep hk (fun x hx => by simp at hx; exact hx ▸ hX) (fun x hx => by simp at hx; exact hx ▸ hX)).at bt26 hl
  have e1 : wr .i64 ((read : Int) + 1) = (read : Int) + 1 := wr_in (by omega) (by omega)
  have e2 : wr .i64 (read : Int) = (read : Int) := wr_in (by omega) (by omega)
  have hst : st.setCe r [inn, .i .i64 ((read : Int) + 1), .b mark, wrote] r = s1 := rfl
  refine ⟨s1, ?_, hR, hk⟩
  rw [body_eq Try.func27 rfl (Nat.le_of_ble_eq_true rfl)]
  simp [Try.f27, callF_of Try.func28 rfl, reof_call h hi, hl, roff0, roff1, load_p inf3 ag3, rd_of hc, store_p inf3 sz3, wt_of hc, e1, evC_draw]
  rw [drawC_nil]
  · simp [hst, roff0, roff1, load_p inf3 ag3, load_p inf26 ag26, rd_of hc1, e2, a1, a2, resOf_eq, pmapO]
  · kernel_rfl
end
end Go.Proofs.Ytnklglbnblbbeaa
