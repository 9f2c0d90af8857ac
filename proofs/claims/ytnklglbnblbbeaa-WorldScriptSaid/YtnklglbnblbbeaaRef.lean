/-
  What the document's world does when it is fed or written to; what Bytes, SameBytes and Pick do.
-/
import Derived.Test.YtnklglbnblbbeaaFeed
namespace Go.Proofs.Ytnklglbnblbbeaa
open Go.Ev
set_option maxRecDepth 100000

theorem kp_fresh {A B B' : List Nat} {a b c : St} (h : Kp A B a b) (k : Kp A B' b c) (hB : ∀ x, x ∈ B' → x ∈ B ∨ a.next ≤ x) : Kp A B a c :=
  ⟨Nat.le_trans h.next k.next, fun r h1 h2 => (k.get r (Nat.lt_of_lt_of_le h1 h.next) h2).trans (h.get r h1 h2), fun g h1 h2 =>
    (k.live g (Nat.lt_of_lt_of_le h1 h.next) fun hh => (hB g hh).elim h2 fun hle => Nat.lt_irrefl _ (Nat.lt_of_lt_of_le h1 hle)).trans (h.live g h1 h2)⟩

theorem ow_cells {st : St} {X : List Nat} {a : AV} {cs : List AV} {g : Option Nat} (h : Ow st X a cs g) : a.cells = some [a] ∧ isSc a = true := by
  rcases h with ⟨rfl, -⟩ | ⟨r, rfl, -⟩ | ⟨r, f, al, -, rfl, -⟩ <;> exact ⟨by simp, rfl⟩
theorem ow_clear {st : St} {X : List Nat} {a : AV} {cs : List AV} {g : Option Nat} (h : Ow st X a cs g) {x : Nat} (hx : x ∈ X) : x ∉ g.toList := by
  rcases h with ⟨-, -, rfl⟩ | ⟨r, -, -, rfl⟩ | ⟨r, f, al, rfl, -, -, -, -, -, h5⟩
  · simp
  · simp
  · intro hh; simp at hh; exact h5 (hh ▸ hx)

section
variable {st : St} {r read : Nat} {mark : Bool} {inn wrote a v : AV} {cells cs ci cw : List AV} {X : List Nat} {g gi gw : Option Nat}

theorem rfeed_over (h : Rw st r inn read true wrote) (n : Nat) : (self Try.prog (n + 1)).call 25 [.p r 0, v] st = some (.i .i64 11, st) := by
  obtain ⟨al, h1⟩ := h.ce
  rw [body_eq Try.func25 rfl (Nat.le_of_ble_eq_true rfl)]
  simp [Try.f25, roff2, load_p inf4 ag4, rd_of h1, resOf_eq, pmapO]

theorem rfeed_long (h : Rw st r inn read false wrote) (hi : Rd st X inn ci) (hv : Rd st X v cells) (h1 : 1048576 < ci.length + cells.length) (h2 : ci.length + cells.length ≤ 10000000) (n : Nat) :
    (self Try.prog (n + 1)).call 25 [.p r 0, v] st = some (.i .i64 3, st) := by
  obtain ⟨al, hc⟩ := h.ce
  have e1 : wr .i64 ((ci.length : Int) + (cells.length : Int)) = (ci.length : Int) + (cells.length : Int) := wr_in (by omega) (by omega)
  have e2 : (1048576 : Int) < (ci.length : Int) + (cells.length : Int) := by omega
  rw [body_eq Try.func25 rfl (Nat.le_of_ble_eq_true rfl)]
  simp [Try.f25, roff0, roff2, load_p inf4 ag4, load_p inf26 ag26, rd_of hc, len_sl Try.underlying26 hi.len hi.text, len_sl Try.underlying26 hv.len hv.text, e1, e2, resOf_eq, pmapO]

theorem rfeed_call (h : Rw st r inn read false wrote) (hi : Ow st X inn ci gi) (hr : r ∈ X) (hX : ∀ x ∈ X, x < st.next) (hv : Rd st X v cells) (hbi : ∀ c ∈ ci, ∃ b, c = .i .u8 b) (hbv : ∀ c ∈ cells, ∃ b, c = .i .u8 b) (h1 : ci.length + cells.length ≤ 1048576) (n : Nat) :
    ∃ inn' g' st', (self Try.prog (n + 1)).call 25 [.p r 0, v] st = some (.i .i64 0, st') ∧ Rw st' r inn' read false wrote ∧ Ow st' X inn' (ci ++ cells) g' ∧ Kp [r] [r] st st' ∧ (∀ x, g' = some x → st.next ≤ x) := by
  obtain ⟨al, hc⟩ := h.ce
  have e1 : wr .i64 ((ci.length : Int) + (cells.length : Int)) = (ci.length : Int) + (cells.length : Int) := wr_in (by omega) (by omega)
  have e2 : ¬ (1048576 : Int) < (ci.length : Int) + (cells.length : Int) := by omega
  have k0 : Kp [] [] st (st.newCe []) := .newCe _ _ _
  have hX0 : ∀ x ∈ X, x < (st.newCe []).next := fun x hx => Nat.lt_succ_of_lt (hX x hx)
  obtain ⟨a1, g1, s1, a11, a12, a13, a14⟩ := append_own (X := X) bt26 (ow_fresh st) (hi.rd.keep k0 (by simp) (by simp)) hbi (by simp; omega) hX0
  have k1 : Kp [] [] st s1 := k0.trans a13
  have hX1 : ∀ x ∈ X, x < s1.next := fun x hx => Nat.lt_of_lt_of_le (hX x hx) k1.next
  have hg1 : ∀ x, g1 = some x → st.next ≤ x := by
    intro x hx
    rcases a14 with rfl | rfl
    · cases hx
    · cases hx; exact Nat.le_succ _
  obtain ⟨a2, g2, s2, a21, a22, a23, a24⟩ := append_own (X := X) bt26 a12 (hv.keep k1 (by simp) (by simp)) hbv (by simp; omega) hX1
  have k2 : Kp [] [] st s2 := kp_fresh k1 a23 fun x hx => .inr (hg1 x (by simpa using hx))
  have hR2 := h.kp k2 (by simp) (by simp)
  obtain ⟨al2, hc2⟩ := hR2.ce
  obtain ⟨c1, c2⟩ := ow_cells a22
  have key : (self Try.prog (n + 1)).call 25 [.p r 0, v] st = some (.i .i64 0, s2.setCe r [a2, .i .i64 (read : Int), .b false, wrote] r) := by
    rw [body_eq Try.func25 rfl (Nat.le_of_ble_eq_true rfl)]
    have hce0 : (st.newCe []).ce r = some ([inn, .i .i64 (read : Int), .b false, wrote], r, al) := k0.ce hc h.lt h.lt (by simp) (by simp)
    simp [Try.f25, roff0, roff2, load_p inf4 ag4, load_p inf26 ag26, rd_of hc, rd_of hce0, len_sl Try.underlying26 hi.rd.len hi.rd.text, len_sl Try.underlying26 hv.len hv.text, e1, e2, build0, a11, a21, store_p inf26 sz26, c1, c2, wt_of hc2, resOf_eq, pmapO]
  refine ⟨a2, g2, _, key, ⟨⟨_, setCe_ce _ _ _⟩, hR2.lt⟩, ?_, (k2.sub (by simp) (by simp)).trans (.setCe (by simp) (by simp)), ?_⟩
  · simpa using a22.keep (.setCe (A := [r]) (B := [r]) (by simp) (by simp)) (fun x hx => by simp at hx; exact hx ▸ hr) (fun x hx => by simp at hx; exact .inl (hx ▸ hr))
  · intro x hx
    rcases a24 with rfl | rfl
    · exact hg1 x hx
    · cases hx; exact k1.next

theorem rput_long (h : Rw st r inn read mark wrote) (hw : Rd st X wrote cw) (hl : cw.length = 1048576) (n : Nat) : (self Try.prog (n + 1)).call 29 [.p r 0, v] st = some (.i .i64 3, st) := by
  obtain ⟨al, hc⟩ := h.ce
  have e1 : (cw.length : Int) = 1048576 := by omega
  rw [body_eq Try.func29 rfl (Nat.le_of_ble_eq_true rfl)]
  simp [Try.f29, roff3, load_p inf26 ag26, rd_of hc, len_sl Try.underlying26 hw.len hw.text, e1, resOf_eq, pmapO]

theorem rput_call {b : Int} (h : Rw st r inn read mark wrote) (hO : Ow st X wrote cw gw) (hr : r ∈ X) (hX : ∀ x ∈ X, x < st.next) (hl : cw.length < 1048576) (n : Nat) :
    ∃ wrote' g' st', (self Try.prog (n + 1)).call 29 [.p r 0, .i .u8 b] st = some (.i .i64 0, st') ∧ Rw st' r inn read mark wrote' ∧ Ow st' X wrote' (cw ++ [.i .u8 b]) g' ∧ Kp [r] (r :: gw.toList) st st' ∧ (g' = gw ∨ ∃ y, g' = some y ∧ st.next ≤ y) := by
  obtain ⟨al, hce⟩ := h.ce
  have hX' : ∀ x ∈ X, x < (st.newCe [.i .u8 b]).next := fun x hx => Nat.lt_succ_of_lt (hX x hx)
  have hnX : st.next ∉ X := fun hh => Nat.lt_irrefl _ (hX _ hh)
  have hR : Rd (st.newCe [.i .u8 b]) X (.sl st.next 0 1 1 (some 1)) [.i .u8 b] := .inr (.inr ⟨st.next, some 1, [.i .u8 b], st.next, _, rfl, newCe_ce _, rfl, Nat.lt_succ_self _, Nat.lt_succ_self _, hnX, hnX⟩)
  obtain ⟨wr', g', s1, k1, k2, k3, k4⟩ := append_own bt26 (hO.keep (.newCe [] [] _) (by simp) (by simp)) hR (by simp) (by simp; omega) hX'
  have hW1 : Rw s1 r inn read mark wrote := (h.kp (.newCe [] [] _) (by simp) (by simp)).kp k3 (by simp) (ow_clear hO hr)
  obtain ⟨al1, hc1⟩ := hW1.ce
  obtain ⟨c1, c2⟩ := ow_cells k2
  have e1 : ¬ (cw.length : Int) = 1048576 := by omega
  have key : (self Try.prog (n + 1)).call 29 [.p r 0, .i .u8 b] st = some (.i .i64 0, s1.setCe r [inn, .i .i64 (read : Int), .b mark, wr'] r) := by
    rw [body_eq Try.func29 rfl (Nat.le_of_ble_eq_true rfl)]
    simp [Try.f29, roff3, load_p inf26 ag26, rd_of hce, len_sl Try.underlying26 hO.rd.len hO.rd.text, e1, build1 _ _ _ _ b, k1, store_p inf26 sz26, c1, c2, wt_of hc1, resOf_eq, pmapO]
  refine ⟨wr', g', _, key, ⟨⟨_, setCe_ce _ _ _⟩, hW1.lt⟩, ?_, ?_, ?_⟩
  · exact k2.keep (.setCe (A := [r]) (B := [r]) (by simp) (by simp)) (fun x hx => by simp at hx; exact hx ▸ hr) (fun x hx => by simp at hx; exact .inl (hx ▸ hr))
  · exact ((Kp.newCe [r] (r :: gw.toList) _).trans (k3.sub (by simp) fun x hx => List.mem_cons_of_mem _ hx)).trans (.setCe (by simp) (by simp))
  · rcases k4 with rfl | rfl
    · exact .inl rfl
    · exact .inr ⟨_, rfl, Nat.le_succ _⟩

theorem same_call (ha : Rd st X a cs) (hb : Rd st X v cs) (n : Nat) (hn : cs.length ≤ n) (hm : cs.length ≤ 10000000) (hc : ∀ c ∈ cs, ∃ b, c = .i .u8 b) : (self Try.prog (n + 2)).call 30 [a, v] st = some (.b true, st) := by
  rw [body_eq Try.func30 rfl (Nat.le_of_ble_eq_true rfl)]
  simp [Try.f30, len_sl Try.underlying26 ha.len ha.text, len_sl Try.underlying26 hb.len hb.text, evC_loop]
  generalize hL : loopC _ _ _ _ = L
  obtain ⟨t', st', rfl, rfl⟩ := loop_use hL 0 cs.length
    (fun i t s => s = st ∧ tget t 0 = a ∧ tget t 1 = v ∧ tget t 5 = .i .i64 (i : Int)) (fun t s => s = st) (by omega)
    ⟨rfl, by simp, by simp, by simp⟩
    (by
      rintro i t s hi ⟨rfl, i0, i1, i5⟩
      clear hL
      obtain ⟨p, p1, p2⟩ := ha.at bt26 hi
      obtain ⟨q, q1, q2⟩ := hb.at bt26 hi
      obtain ⟨b, hb'⟩ := hc cs[i] (List.getElem_mem hi)
      rw [hb'] at p2 q2
      have e4 : wr .i64 ((i : Int) + 1) = ((i + 1 : Nat) : Int) := by rw [wr_in (by omega) (by omega)]; rfl
      have e5 : (i : Int) < (cs.length : Int) := by omega
      simp [i0, i5, e5, len_sl Try.underlying26 ha.len ha.text, evC_draw]
      rw [drawC_nil]
      · simp [i0, i1, i5, e4, p1, p2, q1, q2]
        refine ⟨_, _, ⟨rfl, rfl⟩, rfl, by simp [i0], by simp [i1], by simp⟩
      · kernel_rfl)
    (by
      rintro t s ⟨rfl, i0, i1, i5⟩
      clear hL
      simp [i0, i5, len_sl Try.underlying26 ha.len ha.text])
  simp [resOf_eq, pmapO]

/-- Which of so many. -/
def pk (k : Int) : Int := if k.tmod 6 < 0 then k.tmod 6 + 6 else k.tmod 6
theorem pk_in (k : Int) : 0 ≤ pk k ∧ pk k < 6 := by
  have h1 := Int.tmod_lt_of_pos k (show (0 : Int) < 6 by decide)
  have h2 : -6 < k.tmod 6 := by
    have : (k.tmod 6).natAbs = k.natAbs % 6 := Int.natAbs_tmod k 6
    omega
  unfold pk
  split <;> omega
theorem pick_call (k : Int) (n : Nat) : (self Try.prog (n + 1)).call 15 [.i .i64 k, .i .i64 6] st = some (.i .i64 (pk k), st) := by
  have rm : ∀ c : Bool, Go.Ev.binOp Try.prog 3 c .rem (.i .i64 k) (.i .i64 6) = some (.i .i64 (k.tmod 6)) := fun c => bin_rem (by decide)
  have hp := pk_in k
  rw [body_eq Try.func15 rfl (Nat.le_of_ble_eq_true rfl)]
  unfold pk at hp ⊢
  by_cases h : k.tmod 6 < 0
  · rw [if_pos h] at hp ⊢
    have e1 : wr .i64 (k.tmod 6 + 6) = k.tmod 6 + 6 := wr_in (by omega) (by omega)
    simp [Try.f15, rm, h, e1, resOf_eq, pmapO]
  · rw [if_neg h] at hp ⊢
    simp [Try.f15, rm, h, resOf_eq, pmapO]
end
end Go.Proofs.Ytnklglbnblbbeaa

/-
  What Bytes makes: a slice of the call's own, of the same bytes, with room behind it. What 'make' makes.
-/
namespace Go.Proofs.Ytnklglbnblbbeaa
open Go.Ev
set_option maxRecDepth 100000

theorem makeSl (t : Tr AV) (st : St) (S : Self) (o p : Operand) (l c : Nat) (h1 : evO t o = .i .i64 (l : Int)) (h2 : evO t p = .i .i64 (c : Int)) (h3 : l ≤ c) (h4 : c ≤ 1073741824) :
    opH (.makeSlice 26 o p) Try.prog S t st = some (.sl st.next 0 l 1 (some c), st.newCe (rep c [.i .u8 0])) := by
  show (match elOf Try.prog 26, natOf (evO t o), natOf (evO t p) with
    | some e, some l, some c => match zeroC Try.prog e with
      | some z => (@Bool.rec (fun _ => Res) none (some (.sl st.next 0 l (szOf Try.prog e) (some c), st.newCe (rep c z))) (Nat.ble l c && (Nat.ble c 1073741824 && Nat.ble (c * byOf Try.prog e) 1073741824)))
      | none => none
    | _, _, _ => none) = _
  rw [el26, h1, h2]
  have e1 : natOf (.i .i64 (l : Int)) = some l := rfl
  have e2 : natOf (.i .i64 (c : Int)) = some c := rfl
  simp only [e1, e2, zeroC5, sz5, by5, Nat.mul_one, Nat.ble_eq_true_of_le h3, Nat.ble_eq_true_of_le h4]
  rfl

theorem bAppend_nat {P : Program} {st : St} {ts : List TypeId} {s v : AV} (h : natOf v = none) : bAppend P st ts [s, v] = append P st ts s v := by
  show append0 P st ts s v (natOf v) = _
  rw [h]; rfl
theorem over_take {α : Type} : ∀ (l vs : List α), vs.length ≤ l.length → (over l vs).take vs.length = vs ∧ (over l vs).length = l.length
  | l, [], _ => by simp
  | [], v :: vs, h => by simp at h
  | x :: l, v :: vs, h => by
    obtain ⟨h1, h2⟩ := over_take l vs (by simpa using h)
    simp [h1, h2]

/-- A slice in a row of its own, all of it. -/
def Own (st : St) (v : AV) (cells : List AV) (r : Nat) : Prop := ∃ c l al, v = .sl r 0 cells.length 1 c ∧ st.ce r = some (l, r, al) ∧ l.take cells.length = cells ∧ r < st.next

theorem Own_rd {st : St} {v : AV} {cells : List AV} {r : Nat} {X : List Nat} (h : Own st v cells r) (hX : r ∉ X) : Rd st X v cells := by
  obtain ⟨c, l, al, rfl, h1, h2, h3⟩ := h
  exact .inr (.inr ⟨r, c, l, r, al, rfl, h1, h2, h3, h3, hX, hX⟩)

section
variable {st : St} {v : AV} {cells : List AV} {X : List Nat}
theorem bytes_call (hv : Rd st X v cells) (hb : ∀ c ∈ cells, ∃ b, c = .i .u8 b) (hl : cells.length ≤ 1000000) (n : Nat) :
    ∃ a st' r, (self Try.prog (n + 1)).call 24 [v] st = some (a, st') ∧ Own st' a cells r ∧ st.next ≤ r ∧ Kp [] [] st st' := by
  have e1 : wr .i64 ((cells.length : Int) + 3) = ((cells.length + 3 : Nat) : Int) := by rw [wr_in (by omega) (by omega)]; rfl
  have k0 : Kp [] [] st (st.newCe (rep (cells.length + 3) [.i .u8 0])) := .newCe _ _ _
  have hv0 := hv.keep k0 (by simp) (by simp)
  have hrl : (rep (cells.length + 3) [AV.i .u8 0]).length = cells.length + 3 := by rw [rep_length]; simp
  have hap : ∃ st', bAppend Try.prog (st.newCe (rep (cells.length + 3) [.i .u8 0])) [26, 26] [.sl st.next 0 0 1 (some (cells.length + 3)), v] = some (.sl st.next 0 cells.length 1 (some (cells.length + 3)), st') ∧
      (∃ l al, st'.ce st.next = some (l, st.next, al) ∧ l.take cells.length = cells) ∧ st.next < st'.next ∧ Kp [] [] st st' := by
    have e2 : bAppend Try.prog (st.newCe (rep (cells.length + 3) [.i .u8 0])) [26, 26] [.sl st.next 0 0 1 (some (cells.length + 3)), v] = append Try.prog (st.newCe (rep (cells.length + 3) [.i .u8 0])) [26, 26] (.sl st.next 0 0 1 (some (cells.length + 3))) v := by
      exact bAppend_nat hv.nat
    have e0 : (plainArg Try.prog [26, 26] && hasInfo Try.prog 5 && allSc cells) = true := by rw [plain26, inf5, allSc_bytes hb]; rfl
    rw [e2]
    by_cases h0 : cells.length = 0
    · obtain rfl := List.eq_nil_of_length_eq_zero h0
      refine ⟨_, ?_, ⟨_, _, newCe_ce _, rfl⟩, Nat.lt_succ_self _, k0⟩
      unfold append
      simp only [el26, hv0.len, sz5, hv0.first, e0]
      rfl
    · have hb0 : Nat.beq cells.length 0 = false := by rw [nbeq]; simpa using h0
      have e3 : Nat.ble (0 + cells.length) (cells.length + 3) = true := Nat.ble_eq_true_of_le (by omega)
      have hw := wt_of (newCe_ce (st := st) (rep (cells.length + 3) [.i .u8 0])) 0 cells (by rw [hrl]; omega) (allSc_bytes hb)
      obtain ⟨t1, t2⟩ := over_take (rep (cells.length + 3) [AV.i .u8 0]) cells (by rw [hrl]; omega)
      refine ⟨(st.newCe (rep (cells.length + 3) [.i .u8 0])).setCe st.next (ovr (rep (cells.length + 3) [.i .u8 0]) 0 cells) st.next, ?_, ⟨_, _, setCe_ce _ _ _, by rw [ovr_zero]; exact t1⟩, Nat.lt_succ_self _, ?_⟩
      · unfold append
        simp only [el26, hv0.len, sz5, hv0.first, e0, hb0, e3]
        show (match wt (st.newCe (rep (cells.length + 3) [.i .u8 0])) st.next (0 + 0 * 1) cells with | some s => some (AV.sl st.next 0 (0 + cells.length) 1 (some (cells.length + 3)), s) | none => none) = _
        rw [show 0 + 0 * 1 = 0 from rfl, hw, Nat.zero_add]
      · refine ⟨Nat.le_succ _, fun r hr _ => ?_, fun g hg _ => ?_⟩
        · rw [setCe_get (Nat.ne_of_lt hr)]; exact k0.get r hr (by simp)
        · have : (st.newCe (rep (cells.length + 3) [.i .u8 0])).live.get g = st.live.get g := k0.live g hg (by simp)
          simp [St.setCe, Tr.get_set, Nat.ne_of_lt hg, this]
  obtain ⟨st', a1, ⟨l, al, a2, a3⟩, a4, a5⟩ := hap
  refine ⟨_, st', st.next, ?_, ⟨some (cells.length + 3), l, al, rfl, a2, a3, a4⟩, Nat.le_refl _, a5⟩
  have hm := fun t : Tr AV => makeSl t st (self Try.prog n) (.const (.int .i64 0)) (.tmp 5) 0 (cells.length + 3) rfl
  rw [body_eq Try.func24 rfl (Nat.le_of_ble_eq_true rfl)]
  simp [Try.f24, len_sl Try.underlying26 hv.len hv.text, e1]
  rw [makeSl _ _ _ _ _ 0 (cells.length + 3) rfl (by simp) (by omega) (by omega)]
  simp [a1, resOf_eq, pmapO]
end
end Go.Proofs.Ytnklglbnblbbeaa

/-
  What 'same' answers, where both worlds are alike.
-/
namespace Go.Proofs.Ytnklglbnblbbeaa
open Go.Ev
set_option maxRecDepth 100000

section
variable {P : Program} {S : Self} {nt : Nat} {ops : Array Oper} {t : Tr AV} {st : St} {l : List Oper}
@[simp] theorem recs_nil : recs P S nt ops [] t st = some [⟨t, st, .un, false⟩] := rfl
@[simp] theorem recs_cons {d : Option Tmp} {op : Op} {ty : TypeId} {pos : String} {af : Array Edge} : recs P S nt ops (⟨d, op, ty, pos, af, none⟩ :: l) t st = recsV nt t st d (opH op P S t st) (recs P S nt ops l) := rfl
@[simp] theorem recs_guard {d : Option Tmp} {op : Op} {ty : TypeId} {pos : String} {af : Array Edge} {j : Nat} {b : Bool} : recs P S nt ops (⟨d, op, ty, pos, af, some (j, b)⟩ :: l) t st =
    match guardBy ops t j b with
    | some true => recsV nt t st d (opH op P S t st) (recs P S nt ops l)
    | some false => recsT ⟨t, st, .un, false⟩ (putT nt t d .un) fun t => recs P S nt ops l t st
    | none => none := rfl
@[simp] theorem recsV_some {d : Option Tmp} {v : AV} {st' : St} {k : Tr AV → St → Option (List Rec)} : recsV nt t st d (some (v, st')) k = recsT ⟨t, st, v, true⟩ (putT nt t d v) fun t => k t st' := rfl
@[simp] theorem recsT_some {r : Rec} {k : Tr AV → Option (List Rec)} : recsT r (some t) k = onRec r (k t) := rfl
@[simp] theorem onRec_some {r : Rec} {l : List Rec} : onRec r (some l) = some (r :: l) := rfl
theorem recheck_of {R : List Rec} {j p : Nat} {r q : Rec} {o : Oper} (h1 : R[j]? = some r) (h2 : R[p]? = some q) (h3 : ops[j]? = some o) {u : AV} {s : St} (h4 : opH o.op P S r.t q.st = some (u, s)) (h5 : avEq 4 r.v u = true) : recheck P S ops R (j, p) = true := by
  unfold recheck
  simp only [h1, h2, h3]
  unfold recheckO
  cases hw : r.w
  · rfl
  · show sameR r.v (evOp P S r.t q.st o) = true
    have : evOp P S r.t q.st o = some (u, s) := h4
    rw [this]; exact h5
theorem avEq_i (k : IntKind) (n : Int) : avEq 4 (.i k n) (.i k n) = true := by
  simp [avEq, keq, ieq_eq]
theorem avEq_b (x : Bool) : avEq 4 (.b x) (.b x) = true := by
  simp [avEq]
end

theorem bool_eql {P : Program} {ty : TypeId} {c x y : Bool} (h : P.underlying ty = some .bool) : Go.Ev.binOp P ty c .eql (.b x) (.b y) = some (.b (x == y)) := by
  show eqOp P ty c .eql (.b x) (.b y) = _
  simp [eqOp, eqV, eqT1, h, eqB, orElse]

section
variable {st : St} {w ch r fed used : Nat} {ended : Bool} {out inn wrote : AV} {buf cs ci : List AV} {X : List Nat} {gO gI gW : Option Nat}
theorem ow_avEq {a : AV} {g : Option Nat} (h : Ow st X a cs g) : avEq 4 a a = true := by
  rcases h with ⟨rfl, -⟩ | ⟨r, rfl, -⟩ | ⟨r, f, al, -, rfl, -⟩ <;> simp [avEq, nbeq, sameCap]

theorem same_w (h : Wd st w ch fed used ended out buf) (hR : Rw st r inn used ended wrote) (hO : Ow st X out cs gO) (hI : Ow st X inn ci gI) (hW : Ow st X wrote cs gW) (hb : ∀ c ∈ cs, ∃ b, c = .i .u8 b) (hX : ∀ x ∈ X, x < st.next)
    (h1 : used ≤ ci.length) (h2 : buf.length = ci.length - used) (h3 : ci.length ≤ 1048576) (h4 : cs.length ≤ 1048576) (n : Nat) (hn : cs.length ≤ n) :
    ∃ st', (self Try.prog (n + 3)).call 18 [.p w 0, .p r 0] st = some (.b true, st') ∧ Kp [] [] st st' := by
  obtain ⟨al, hc⟩ := hR.ce
  obtain ⟨a', s1, k1, k2, k3⟩ := out_call h hO hb (by omega) hX n
  have hR1 := hR.kp k3 (by simp) (by simp)
  have hW1 := h.kp k3 (by simp) (by simp) (by simp)
  obtain ⟨al1, hc1⟩ := hR1.ce
  have hS := same_call k2 (hW.keep k3 (by simp) (by simp)).rd n hn (by omega) hb
  have hU := used_call hW1 n
  have hL := left_call hW1 n
  have hE := ended_call hW1 n
  have hrl := rleft_call hR1 (hI.keep k3 (by simp) (by simp)).rd h1 (by omega) (n + 1)
  rw [h2] at hL
  refine ⟨s1, ?_, k3⟩
  rw [body_eq Try.func18 rfl (Nat.le_of_ble_eq_true rfl)]
  simp [Try.f18, evC_draw]
  rw [drawC_eq (fl := [(5, 0), (13, 7), (29, 21)])]
  · simp [callF_of Try.func21 rfl, callF_of Try.func30 rfl, callF_of Try.func10 rfl, callF_of Try.func13 rfl, callF_of Try.func31 rfl, callF_of Try.func14 rfl, k1, roff1, roff2, roff3, load_p inf26 ag26, load_p inf3 ag3, load_p inf4 ag4, rd_of hc1, hS, hU, hL, hE, hrl, bool_eql Try.underlying4, resOf_eq, pmapO]
  · kernel_rfl
  · intro R hR'
    simp [callF_of Try.func21 rfl, callF_of Try.func30 rfl, callF_of Try.func10 rfl, callF_of Try.func13 rfl, callF_of Try.func31 rfl, callF_of Try.func14 rfl, k1, roff1, roff2, roff3, load_p inf26 ag26, load_p inf3 ag3, load_p inf4 ag4, rd_of hc1, hS, hU, hL, hE, hrl, bool_eql Try.underlying4] at hR'
    subst hR'
    simp only [List.all_cons, List.all_nil, Bool.and_true, Bool.and_eq_true]
    refine ⟨recheck_of rfl rfl rfl (u := wrote) (s := st) ?_ (ow_avEq hW), recheck_of rfl rfl rfl (u := .i .i64 (used : Int)) (s := s1) ?_ (avEq_i _ _), recheck_of rfl rfl rfl (u := .b ended) (s := s1) ?_ (avEq_b _)⟩
    · simp [load_p inf26 ag26, rd_of hc]
    · simp [load_p inf3 ag3, rd_of hc1]
    · simp [load_p inf4 ag4, rd_of hc1]
end
end Go.Proofs.Ytnklglbnblbbeaa
