/-
  Both worlds, alike: what is kept while something else changes.
-/
import Derived.Test.YtnklglbnblbbeaaRef
namespace Go.Proofs.Ytnklglbnblbbeaa
open Go.Ev
set_option maxRecDepth 100000

/-- Two families that are not one. -/
def Dj (a b : Option Nat) : Prop := ∀ x, a = some x → b ≠ some x
theorem Dj_symm {a b : Option Nat} (h : Dj a b) : Dj b a := fun x hb ha => h x ha hb
theorem Dj_new {a b : Option Nat} {n : Nat} (ha : ∀ x, a = some x → n ≤ x) (hb : ∀ x, b = some x → x < n) : Dj a b := fun x h1 h2 => absurd (ha x h1) (Nat.not_le.2 (hb x h2))

theorem ow_lt {st : St} {X : List Nat} {a : AV} {cs : List AV} {g : Option Nat} (h : Ow st X a cs g) : ∀ x, g = some x → x < st.next := by
  rcases h with ⟨-, -, rfl⟩ | ⟨r, -, -, rfl⟩ | ⟨r, f, al, rfl, -, -, -, h4, -⟩
  · intro x hx; cases hx
  · intro x hx; cases hx
  · intro x hx; cases hx; exact h4

theorem kp_new {A B A' B' : List Nat} {a b c : St} (h : Kp A B a b) (k : Kp A' B' b c) (hA : ∀ x, x ∈ A' → a.next ≤ x) (hB : ∀ x, x ∈ B' → a.next ≤ x) : Kp A B a c :=
  ⟨Nat.le_trans h.next k.next, fun r h1 h2 => (k.get r (Nat.lt_of_lt_of_le h1 h.next) fun hh => absurd (hA r hh) (Nat.not_le.2 h1)).trans (h.get r h1 h2), fun g h1 h2 =>
    (k.live g (Nat.lt_of_lt_of_le h1 h.next) fun hh => absurd (hB g hh) (Nat.not_le.2 h1)).trans (h.live g h1 h2)⟩

/-- A world and the document's world, that are alike: what was fed, what was written. -/
structure Bo (st : St) (w ch r : Nat) (out inn wrote : AV) (ci cs : List AV) (used : Nat) (ended : Bool) (gO gI gW : Option Nat) : Prop where
  W : Wd st w ch ci.length used ended out (ci.drop used)
  R : Rw st r inn used ended wrote
  O : Ow st [w, ch, r] out cs gO
  I : Ow st [w, ch, r] inn ci gI
  V : Ow st [w, ch, r] wrote cs gW
  u : used ≤ ci.length
  bi : ∀ c ∈ ci, ∃ b, c = .i .u8 b
  bs : ∀ c ∈ cs, ∃ b, c = .i .u8 b
  li : ci.length ≤ 1048576
  ls : cs.length ≤ 1048576
  rw : r ≠ w
  rc : r ≠ ch
  OI : Dj gO gI
  OV : Dj gO gW
  IV : Dj gI gW

section
variable {st st' : St} {w ch r used : Nat} {ended : Bool} {out inn wrote : AV} {ci cs : List AV} {gO gI gW : Option Nat}
theorem Bo.keep (h : Bo st w ch r out inn wrote ci cs used ended gO gI gW) (k : Kp [] [] st st') : Bo st' w ch r out inn wrote ci cs used ended gO gI gW :=
  ⟨h.W.kp k (by simp) (by simp) (by simp), h.R.kp k (by simp) (by simp), h.O.keep k (by simp) (by simp), h.I.keep k (by simp) (by simp), h.V.keep k (by simp) (by simp), h.u, h.bi, h.bs, h.li, h.ls, h.rw, h.rc, h.OI, h.OV, h.IV⟩
theorem Bo.X (h : Bo st w ch r out inn wrote ci cs used ended gO gI gW) : ∀ x ∈ [w, ch, r], x < st.next := by
  intro x hx
  simp at hx
  rcases hx with rfl | rfl | rfl
  · exact h.W.wlt
  · exact h.W.clt
  · exact h.R.lt

/-- There are worlds that are alike. -/
def Alike (st : St) (w ch r : Nat) : Prop := ∃ out inn wrote ci cs used ended gO gI gW, Bo st w ch r out inn wrote ci cs used ended gO gI gW

theorem end_both (h : Bo st w ch r out inn wrote ci cs used ended gO gI gW) (n : Nat) :
    ∃ e s1 s2, (self Try.prog (n + 2)).call 12 [.p w 0] st = some (.i .i64 e, s1) ∧ (self Try.prog (n + 2)).call 26 [.p r 0] s1 = some (.i .i64 e, s2) ∧ Alike s2 w ch r := by
  cases ended with
  | true => exact ⟨11, st, st, end_over h.W n, rend_over h.R (n + 1), _, _, _, _, _, _, _, _, _, _, h⟩
  | false =>
    obtain ⟨s1, k1, k2, k3⟩ := end_call h.W n
    have k3 := k3.kp
    have hR1 := h.R.kp k3 (by simp [h.rw, h.rc]) (by simp [h.rw, h.rc])
    obtain ⟨s2, m1, m2, m3⟩ := rend_call hR1 (n + 1)
    have hs : ∀ x, x ∈ [w, ch] → x ∈ [w, ch, r] := by intro x hx; simp at hx ⊢; omega
    have hs2 : ∀ x, x ∈ [r] → x ∈ [w, ch, r] := by intro x hx; simp at hx ⊢; omega
    have keep : ∀ {a : AV} {c : List AV} {g : Option Nat}, Ow st [w, ch, r] a c g → Ow s2 [w, ch, r] a c g := fun ho => (ho.keep k3 hs fun x hx => .inl (hs x hx)).keep m3 hs2 fun x hx => .inl (hs2 x hx)
    exact ⟨0, s1, s2, k1, m1, out, inn, wrote, ci, cs, used, true, gO, gI, gW, k2.kp m3 (by simp [Ne.symm h.rw]) (by simp [Ne.symm h.rc]) (by simp [Ne.symm h.rw]), m2, keep h.O, keep h.I, keep h.V, h.u, h.bi, h.bs, h.li, h.ls, h.rw, h.rc, h.OI, h.OV, h.IV⟩

theorem get_both (h : Bo st w ch r out inn wrote ci cs used ended gO gI gW) (n : Nat) :
    ∃ b x s1 s2, (self Try.prog (n + 2)).call 11 [.p w 0] st = some (.tu [.i .u8 b, .i .i64 x, .i .i64 0], s1) ∧ (self Try.prog (n + 2)).call 27 [.p r 0] s1 = some (.tu [.i .u8 b, .i .i64 x], s2) ∧ Alike s2 w ch r := by
  by_cases hl : used < ci.length
  · obtain ⟨b, hb⟩ := h.bi ci[used] (List.getElem_mem hl)
    have hcons : ci.drop used = .i .u8 b :: ci.drop (used + 1) := by rw [← hb]; exact List.drop_eq_getElem_cons hl
    have hW := h.W
    rw [hcons] at hW
    obtain ⟨s1, k1, k2, k3⟩ := get_some _ hW (by have := h.li; omega) n
    have k3 := k3.kp
    have hR1 := h.R.kp k3 (by simp [h.rw, h.rc]) (by simp [h.rw, h.rc])
    have hs : ∀ x, x ∈ [w, ch] → x ∈ [w, ch, r] := by intro x hx; simp at hx ⊢; omega
    have hs2 : ∀ x, x ∈ [r] → x ∈ [w, ch, r] := by intro x hx; simp at hx ⊢; omega
    obtain ⟨s2, m1, m2, m3⟩ := rget_some hR1 (h.I.keep k3 hs fun x hx => .inl (hs x hx)).rd (by simp) hl (by have := h.li; omega) n
    rw [hb] at m1
    have keep : ∀ {a : AV} {c : List AV} {g : Option Nat}, Ow st [w, ch, r] a c g → Ow s2 [w, ch, r] a c g := fun ho => (ho.keep k3 hs fun x hx => .inl (hs x hx)).keep m3 hs2 fun x hx => .inl (hs2 x hx)
    exact ⟨b, 1, s1, s2, k1, m1, out, inn, wrote, ci, cs, used + 1, ended, gO, gI, gW, k2.kp m3 (by simp [Ne.symm h.rw]) (by simp [Ne.symm h.rc]) (by simp [Ne.symm h.rw]), m2, keep h.O, keep h.I, keep h.V, hl, h.bi, h.bs, h.li, h.ls, h.rw, h.rc, h.OI, h.OV, h.IV⟩
  · have hnil : ci.drop used = [] := List.drop_eq_nil_of_le (by omega)
    have hW := h.W
    rw [hnil] at hW
    exact ⟨0, _, st, st, get_none hW n, rget_none h.R h.I.rd hl n, _, _, _, _, _, _, _, _, _, _, h⟩

theorem put_both {b : Int} (h : Bo st w ch r out inn wrote ci cs used ended gO gI gW) (n : Nat) :
    ∃ e s1 s2, (self Try.prog (n + 2)).call 20 [.p w 0, .i .u8 b] st = some (.i .i64 e, s1) ∧ (self Try.prog (n + 2)).call 29 [.p r 0, .i .u8 b] s1 = some (.i .i64 e, s2) ∧ Alike s2 w ch r ∧ Kp [w] (w :: gO.toList) st s1 := by
  by_cases hl : cs.length < 1048576
  · obtain ⟨out', gO', s1, k1, k2, k3, k4, k5⟩ := put_call (b := b) h.W h.O (by simp) (by simp) h.X hl n
    have hs : ∀ x, x ∈ [w] → x ∈ [w, ch, r] := by intro x hx; simp at hx ⊢; omega
    have hs2 : ∀ x, x ∈ [r] → x ∈ [w, ch, r] := by intro x hx; simp at hx ⊢; omega
    have hB : ∀ {g : Option Nat}, Dj gO g → ∀ x, x ∈ w :: gO.toList → x ∈ [w, ch, r] ∨ g ≠ some x := by
      intro g hd x hx
      rcases List.mem_cons.1 hx with rfl | hx
      · exact .inl (by simp)
      · exact .inr (hd x (by simpa using hx))
    have hrO : r ∉ w :: gO.toList := by
      intro hh
      rcases List.mem_cons.1 hh with e | hh
      · exact h.rw e
      · exact ow_clear h.O (by simp : r ∈ [w, ch, r]) hh
    have hR1 := h.R.kp k4 (by simp [h.rw]) hrO
    have hV1 := h.V.keep k4 hs (hB h.OV)
    have hI1 := h.I.keep k4 hs (hB h.OI)
    have hX1 : ∀ x ∈ [w, ch, r], x < s1.next := fun x hx => Nat.lt_of_lt_of_le (h.X x hx) k4.next
    obtain ⟨wr', gW', s2, m1, m2, m3, m4, m5⟩ := rput_call (b := b) hR1 hV1 (by simp) hX1 hl (n + 1)
    have dO : ∀ x, gO' = some x → x < s1.next := ow_lt k3
    have d1 : Dj gO' gW := by
      rcases k5 with rfl | ⟨y, rfl, hy⟩
      · exact h.OV
      · exact Dj_new (n := st.next) (fun x hx => by cases hx; exact hy) (ow_lt h.V)
    have d2 : Dj gO' gI := by
      rcases k5 with rfl | ⟨y, rfl, hy⟩
      · exact h.OI
      · exact Dj_new (n := st.next) (fun x hx => by cases hx; exact hy) (ow_lt h.I)
    have d3 : Dj gO' gW' := by
      rcases m5 with rfl | ⟨y, rfl, hy⟩
      · exact d1
      · exact Dj_symm (Dj_new (n := s1.next) (fun x hx => by cases hx; exact hy) dO)
    have d4 : Dj gI gW' := by
      rcases m5 with rfl | ⟨y, rfl, hy⟩
      · exact h.IV
      · exact Dj_symm (Dj_new (n := s1.next) (fun x hx => by cases hx; exact hy) (ow_lt hI1))
    have hB2 : ∀ {g : Option Nat}, Dj g gW → ∀ x, x ∈ r :: gW.toList → x ∈ [w, ch, r] ∨ g ≠ some x := by
      intro g hd x hx
      rcases List.mem_cons.1 hx with rfl | hx
      · exact .inl (by simp)
      · exact .inr (Dj_symm hd x (by simpa using hx))
    have hwV : w ∉ r :: gW.toList := by
      intro hh
      rcases List.mem_cons.1 hh with e | hh
      · exact h.rw e.symm
      · exact ow_clear hV1 (by simp : w ∈ [w, ch, r]) hh
    have hb : ∀ c ∈ cs ++ [AV.i .u8 b], ∃ b, c = .i .u8 b := by
      intro c hc
      rcases List.mem_append.1 hc with hc | hc
      · exact h.bs c hc
      · exact ⟨b, by simpa using hc⟩
    exact ⟨0, s1, s2, k1, m1, ⟨out', inn, wr', ci, cs ++ [.i .u8 b], used, ended, gO', gI, gW', k2.kp m4 (by simp [Ne.symm h.rw]) (by simp [Ne.symm h.rc]) hwV, m2, k3.keep m4 hs2 (hB2 d1), hI1.keep m4 hs2 (hB2 h.IV), m3, h.u, h.bi, hb, h.li, by simp; omega, h.rw, h.rc, d2, d3, d4⟩, k4⟩
  · have hl' : cs.length = 1048576 := by have := h.ls; omega
    exact ⟨3, st, st, put_long h.W h.O (by omega) n, rput_long h.R h.V.rd hl' (n + 1), ⟨_, _, _, _, _, _, _, _, _, _, h⟩, .refl _ _ _⟩
end
end Go.Proofs.Ytnklglbnblbbeaa

/-
  Both worlds are fed the same: both answer the same, and are alike still.
-/
namespace Go.Proofs.Ytnklglbnblbbeaa
open Go.Ev
set_option maxRecDepth 100000

section
variable {s0 s1 : St} {w ch r used : Nat} {ended : Bool} {out inn wrote v : AV} {ci cs cells : List AV} {gO gI gW : Option Nat}
theorem feed_both (h : Bo s0 w ch r out inn wrote ci cs used ended gO gI gW) (k0 : Kp [] [] s0 s1) (hv : Rd s1 [w, ch] v cells) (hb : ∀ c ∈ cells, ∃ b, c = .i .u8 b) (hl : cells.length ≤ 1048600) (n : Nat) (hn : 1048600 ≤ n) :
    ∃ e s2, (self Try.prog (n + 2)).call 9 [.p w 0, v] s1 = some (.i .i64 e, s2) ∧ Kp [w, ch] [w] s0 s2 ∧ Kp [w, ch] [w] s1 s2 ∧
      ∀ s3, Kp [w, ch] [w] s0 s3 → (∀ fed ended buf, Wd s2 w ch fed used ended out buf → Wd s3 w ch fed used ended out buf) → ∀ v2, Rd s3 [w, ch, r] v2 cells →
        ∃ s4, (self Try.prog (n + 2)).call 25 [.p r 0, v2] s3 = some (.i .i64 e, s4) ∧ Alike s4 w ch r := by
  have h1 := h.keep k0
  have hs : ∀ x, x ∈ [w, ch] → x ∈ [w, ch, r] := by intro x hx; simp at hx ⊢; omega
  have hsw : ∀ {g : Option Nat}, ∀ x, x ∈ [w] → x ∈ [w, ch, r] ∨ g ≠ some x := by intro g x hx; simp at hx; subst hx; exact .inl (by simp)
  have stay : ∀ {s3 : St}, Kp [w, ch] [w] s0 s3 → Rw s3 r inn used ended wrote ∧ Ow s3 [w, ch, r] out cs gO ∧ Ow s3 [w, ch, r] inn ci gI ∧ Ow s3 [w, ch, r] wrote cs gW := fun k =>
    ⟨h.R.kp k (by simp [h.rw, h.rc]) (by simp [h.rw]), h.O.keep k hs hsw, h.I.keep k hs hsw, h.V.keep k hs hsw⟩
  cases ended with
  | true =>
    refine ⟨11, s1, feed_over h1.W n, k0.sub (by simp) (by simp), .refl _ _ _, fun s3 k3 hW v2 hv2 => ?_⟩
    obtain ⟨a1, a2, a3, a4⟩ := stay k3
    exact ⟨s3, rfeed_over a1 (n + 1), _, _, _, _, _, _, _, _, _, _, hW _ _ _ h1.W, a1, a2, a3, a4, h.u, h.bi, h.bs, h.li, h.ls, h.rw, h.rc, h.OI, h.OV, h.IV⟩
  | false =>
    by_cases hlong : 1048576 < ci.length + cells.length
    · refine ⟨3, s1, feed_long h1.W hv h.li hlong n, k0.sub (by simp) (by simp), .refl _ _ _, fun s3 k3 hW v2 hv2 => ?_⟩
      obtain ⟨a1, a2, a3, a4⟩ := stay k3
      exact ⟨s3, rfeed_long a1 a3.rd hv2 hlong (by have := h.li; omega) (n + 1), _, _, _, _, _, _, _, _, _, _, hW _ _ _ h1.W, a1, a2, a3, a4, h.u, h.bi, h.bs, h.li, h.ls, h.rw, h.rc, h.OI, h.OV, h.IV⟩
    · have hu := h.u
      obtain ⟨s2, k1, k2, k3⟩ := feed_rd h1.W hv (by omega) (by simp; omega) n (by omega)
      refine ⟨0, s2, k1, (k0.sub (by simp) (by simp)).trans k3, k3, fun s3 k4 hW v2 hv2 => ?_⟩
      obtain ⟨a1, a2, a3, a4⟩ := stay k4
      have hX3 : ∀ x ∈ [w, ch, r], x < s3.next := fun x hx => Nat.lt_of_lt_of_le (h.X x hx) k4.next
      obtain ⟨inn', g', s4, m1, m2, m3, m4, m5⟩ := rfeed_call a1 a3 (by simp) hX3 hv2 h.bi hb (by omega) (n + 1)
      have hs2 : ∀ x, x ∈ [r] → x ∈ [w, ch, r] := by intro x hx; simp at hx ⊢; omega
      have hW3 := (hW _ _ _ k2).kp m4 (by simp [Ne.symm h.rw]) (by simp [Ne.symm h.rc]) (by simp [Ne.symm h.rw])
      have e1 : ci.length + cells.length = (ci ++ cells).length := by rw [List.length_append]
      have e2 : ci.drop used ++ cells = (ci ++ cells).drop used := by rw [List.drop_append_of_le_length hu]
      rw [e1, e2] at hW3
      have hbi : ∀ c ∈ ci ++ cells, ∃ b, c = .i .u8 b := by
        intro c hc
        rcases List.mem_append.1 hc with hc | hc
        · exact h.bi c hc
        · exact hb c hc
      exact ⟨s4, m1, out, inn', wrote, ci ++ cells, cs, used, false, gO, g', gW, hW3, m2, a2.keep m4 hs2 fun x hx => .inl (hs2 x hx), m3, a4.keep m4 hs2 fun x hx => .inl (hs2 x hx), by simp; omega, hbi, h.bs, by simp; omega, h.ls, h.rw, h.rc,
        Dj_symm (Dj_new (n := s3.next) m5 (ow_lt a2)), h.OV, Dj_new (n := s3.next) m5 (ow_lt a4)⟩
end
end Go.Proofs.Ytnklglbnblbbeaa

/-
  One call of both worlds: the answers are alike, and so are the worlds behind it.
-/
namespace Go.Proofs.Ytnklglbnblbbeaa
open Go.Ev
set_option maxRecDepth 100000

theorem aoff0 : fieldOff Try.prog 36 0 = some 0 := by kernel_rfl
theorem aoff1 : fieldOff Try.prog 36 1 = some 1 := by kernel_rfl
theorem aoff2 : fieldOff Try.prog 36 2 = some 2 := by kernel_rfl
theorem aoff3 : fieldOff Try.prog 36 3 = some 3 := by kernel_rfl

@[simp] theorem opH_max {P : Program} {S : Self} {t : Tr AV} {st : St} {as1 : Array Operand} {ts : Array TypeId} : opH (.call { callee := .builtin .max, args := as1, argTypes := ts }) P S t st = bMax P st ts.toList (args t as1.toList) := rfl
theorem max_zero {P : Program} {st : St} {ts : List TypeId} (m : Int) : bMax P st ts [.i .i64 0, .i .i64 m] = some (.i .i64 (m.toNat : Int), st) := by
  show some (AV.i .i64 (@Bool.rec (fun _ => Int) 0 m (ilt 0 m)), st) = _
  rw [ilt_eq]
  by_cases h : (0 : Int) < m
  · rw [decide_eq_true h]
    show some (AV.i .i64 m, st) = _
    rw [show ((m.toNat : Int)) = m by omega]
  · rw [decide_eq_false h]
    show some (AV.i .i64 0, st) = _
    rw [show ((m.toNat : Int)) = 0 by omega]

theorem ovr_one : ∀ (l : List AV) (i : Nat) (v : AV), ovr l i [v] = l.set i v
  | [], 0, v => rfl
  | x :: l, 0, v => by simp
  | [], i + 1, v => rfl
  | x :: l, i + 1, v => by simp [ovr_one l i v]

/-- A row of its own family, of so many cells at the least. -/
def HasRow (s : St) (r n : Nat) : Prop := ∃ l al, s.ce r = some (l, r, al) ∧ n ≤ l.length
/-- A row of its own family, of N cells, of which the first i are such a byte. -/
def HasFill (s : St) (r N i : Nat) (c : Int) : Prop := ∃ l al, s.ce r = some (l, r, al) ∧ l.length = N ∧ l.take i = List.replicate i (.i .u8 c)

section
variable {st : St} {w ch r used : Nat} {ended : Bool} {out inn wrote bv : AV} {ci cs bc : List AV} {gO gI gW : Option Nat} {k c m : Int}

theorem act_call (h : Bo st w ch r out inn wrote ci cs used ended gO gI gW) (hbv : IsSl bv bc) (hbc : ∀ c ∈ bc, ∃ b, c = .i .u8 b) (hl : bc.length ≤ 4000) (hm : m ≤ 1048586) (n : Nat) (hn : 1048600 ≤ n) :
    ∃ st', (self Try.prog (n + 3)).call 17 [.p w 0, .p r 0, .ag [.i .i64 k, bv, .i .u8 c, .i .i64 m]] st = some (.b true, st') ∧ Alike st' w ch r := by
  have e3 : ∀ (t : Tr AV) (s : St) (l : List AV), tget t 2 = .ag l → opH (.box 36 (.tmp 2)) Try.prog (self Try.prog (n + 2)) t s = some (.p s.next 0, s.newCe l) := by
    intro t s l ht
    show allocC s (evO t (.tmp 2)).cells = _
    rw [evO_tmp, ht, cells_ag]; rfl
  obtain ⟨s0, hs0⟩ : ∃ s0, st.newCe [.i .i64 k, bv, .i .u8 c, .i .i64 m] = s0 := ⟨_, rfl⟩
  obtain ⟨a, ha⟩ : ∃ a, st.next = a := ⟨_, rfl⟩
  have hc0 : s0.ce a = some ([.i .i64 k, bv, .i .u8 c, .i .i64 m], a, [a]) := by rw [← hs0, ← ha]; exact newCe_ce _
  have ha0 : a < s0.next := by rw [← hs0, ← ha]; exact Nat.lt_succ_self _
  have h0 : Bo s0 w ch r out inn wrote ci cs used ended gO gI gW := by rw [← hs0]; exact h.keep (.newCe _ _ _)
  have haw : a ≠ w := by rw [← ha]; exact (Nat.ne_of_lt h.W.wlt).symm
  have hac : a ≠ ch := by rw [← ha]; exact (Nat.ne_of_lt h.W.clt).symm
  have har : a ≠ r := by rw [← ha]; exact (Nat.ne_of_lt h.R.lt).symm
  have hp := pick_call (st := s0) k (n + 1)
  obtain ⟨q, hq⟩ : ∃ q, pk k = q := ⟨_, rfl⟩
  have hqi := pk_in k
  rw [hq] at hp hqi
  rw [body_eq Try.func17 rfl (Nat.le_of_ble_eq_true rfl)]
  have hcase : q = 0 ∨ q = 1 ∨ q = 2 ∨ q = 3 ∨ q = 4 ∨ q = 5 := by omega
  rcases hcase with rfl | rfl | rfl | rfl | rfl | rfl
  · obtain ⟨a1, s1, r1, b1, b2, b3, b4⟩ := bytes_call (X := []) (.inl hbv : Rd s0 [] bv bc) hbc (by omega) (n + 1)
    have hX := h0.X
    have hw0 : w < s0.next := hX w (by simp)
    have hch0 : ch < s0.next := hX ch (by simp)
    have hr1w : r1 ≠ w := by omega
    have hr1c : r1 ≠ ch := by omega
    obtain ⟨e, s2, f1, f2, f2', f3⟩ := feed_both h0 b4 (Own_rd b2 (by simp [hr1w, hr1c])) hbc (by omega) n hn
    obtain ⟨cc, l1, al1, rfl, c1, c2, c3⟩ := b2
    have c4 := f2'.ce c1 c3 c3 (by simp [hr1w, hr1c]) (by simp [hr1w])
    have hl1 := take_len (n := 0) c2
    simp [Try.f17, e3, hs0, ha, aoff0, aoff1, load_p inf3 ag3, load_p inf26 ag26, rd_of hc0, callF_of Try.func15 rfl, hp, callF_of Try.func24 rfl, b1, callF_of Try.func9 rfl, f1, evC_loop]
    generalize hL : loopC _ _ _ _ = L
    obtain ⟨t4, s3, rfl, p1, p5, p8, pK⟩ := loop_use hL 1 bc.length
      (fun i t s => tget t 1 = .p r 0 ∧ tget t 5 = .p a 0 ∧ tget t 8 = .i .i64 e ∧ tget t 7 = .sl r1 0 bc.length 1 cc ∧ tget t 9 = .i .i64 (i : Int) ∧ Kp [r1] [r1] s2 s ∧ HasRow s r1 bc.length)
      (fun t s => tget t 1 = .p r 0 ∧ tget t 5 = .p a 0 ∧ tget t 8 = .i .i64 e ∧ Kp [r1] [r1] s2 s) (by omega)
      ⟨by simp, by simp, by simp, by simp, by simp, .refl _ _ _, l1, al1, c4, hl1⟩
      (by
        rintro i t s hi ⟨i1, i5, i8, i7, i9, iK, l, al, ic, il⟩
        clear hL
        have e4 : wr .i64 ((i : Int) + 1) = ((i + 1 : Nat) : Int) := by rw [wr_in (by omega) (by omega)]; rfl
        have e5 : (i : Int) < (bc.length : Int) := by omega
        have hix := index_sl (P := Try.prog) Try.underlying26 inf5 sz5 r1 0 bc.length i cc hi
        have hw := wt_of ic i [.i .u8 0] (by simp; omega) (by simp)
        simp [i7, i9, e4, e5, len_sl Try.underlying26 (show lenOf (.sl r1 0 bc.length 1 cc) = some bc.length from rfl) rfl, hix, store_p inf5 sz5, hw]
        refine ⟨_, _, ⟨rfl, rfl⟩, by simp [i1], by simp [i5], by simp [i8], by simp [i7], by simp, iK.trans (.setCe (by simp) (by simp)), _, _, setCe_ce _ _ _, ?_⟩
        rw [ovr_one, List.length_set]; exact il)
      (by
        rintro t s ⟨i1, i5, i8, i7, i9, iK, -⟩
        clear hL
        simp [i7, i9, len_sl Try.underlying26 (show lenOf (.sl r1 0 bc.length 1 cc) = some bc.length from rfl) rfl]
        refine ⟨_, _, ⟨rfl, rfl⟩, by simp [i1], by simp [i5], by simp [i8], iK⟩)
    have k3 : Kp [w, ch] [w] s0 s3 := kp_new f2 pK (fun x hx => by simp at hx; omega) (fun x hx => by simp at hx; omega)
    have hc3 := k3.ce hc0 ha0 ha0 (by simp [haw, hac]) (by simp [haw])
    obtain ⟨s4, g1, g2⟩ := f3 s3 k3 (fun fed ended buf hW => hW.kp pK (by simp [Ne.symm hr1w]) (by simp [Ne.symm hr1c]) (by simp [Ne.symm hr1w])) bv (.inl hbv)
    refine ⟨s4, ?_, g2⟩
    simp [p1, p5, p8, aoff1, load_p inf26 ag26, rd_of hc3, callF_of Try.func25 rfl, g1, resOf_eq, pmapO]
  · obtain ⟨e, s1, s2, k1, k2, k3⟩ := end_both h0 n
    refine ⟨s2, ?_, k3⟩
    simp [Try.f17, e3, hs0, ha, aoff0, load_p inf3 ag3, rd_of hc0, callF_of Try.func15 rfl, hp, callF_of Try.func12 rfl, callF_of Try.func26 rfl, k1, k2, resOf_eq, pmapO]
  · obtain ⟨b, x, s1, s2, k1, k2, k3⟩ := get_both h0 n
    refine ⟨s2, ?_, k3⟩
    simp [Try.f17, e3, hs0, ha, aoff0, load_p inf3 ag3, rd_of hc0, callF_of Try.func15 rfl, hp, callF_of Try.func11 rfl, callF_of Try.func27 rfl, k1, k2, resOf_eq, pmapO]
  · refine ⟨s0, ?_, _, _, _, _, _, _, _, _, _, _, h0⟩
    have k1 := eof_call h0.W n
    have k2 := reof_call h0.R h0.I.rd (n + 1)
    have e1 : (ci.drop used).length = ci.length - used := by simp
    rw [e1] at k1
    have e2 : (0 < ci.length - used) ↔ used < ci.length := by omega
    simp only [e2] at k1
    simp [Try.f17, e3, hs0, ha, aoff0, load_p inf3 ag3, rd_of hc0, callF_of Try.func15 rfl, hp, callF_of Try.func19 rfl, callF_of Try.func28 rfl, k1, k2, resOf_eq, pmapO]
  · obtain ⟨e, s1, s2, k1, k2, k3, k4⟩ := put_both (b := c) h0 n
    refine ⟨s2, ?_, k3⟩
    have haO : a ∉ w :: gO.toList := by
      intro hh
      rcases List.mem_cons.1 hh with e | hh
      · exact haw e
      · have := ow_lt h.O a (by simpa using hh)
        omega
    have hc1 := k4.ce hc0 ha0 ha0 (by simp [haw]) haO
    simp [Try.f17, e3, hs0, ha, aoff0, load_p inf3 ag3, rd_of hc0, callF_of Try.func15 rfl, hp, evC_draw]
    rw [drawC_eq (fl := [(6, 0)])]
    · simp [aoff2, load_p inf5 ag5, rd_of hc0, rd_of hc1, callF_of Try.func20 rfl, callF_of Try.func29 rfl, k1, k2, resOf_eq, pmapO]
    · kernel_rfl
    · intro R hR'
      simp [aoff2, load_p inf5 ag5, rd_of hc0, rd_of hc1, callF_of Try.func20 rfl, callF_of Try.func29 rfl, k1, k2] at hR'
      subst hR'
      simp only [List.all_cons, List.all_nil, Bool.and_true]
      refine recheck_of rfl rfl rfl (u := .i .u8 c) (s := s0) ?_ (avEq_i _ _)
      simp [load_p inf5 ag5, rd_of hc0]
  · have hX := h0.X
    have hw0 : w < s0.next := hX w (by simp)
    have hch0 : ch < s0.next := hX ch (by simp)
    have hr0 : r < s0.next := hX r (by simp)
    obtain ⟨N, hN⟩ : ∃ N, m.toNat = N := ⟨_, rfl⟩
    have hN' : N ≤ 1048586 := by omega
    have k01 : Kp [] [] s0 (s0.newCe (rep N [.i .u8 0])) := .newCe _ _ _
    simp [Try.f17, e3, hs0, ha, aoff0, aoff3, load_p inf3 ag3, rd_of hc0, callF_of Try.func15 rfl, hp, max_zero, hN]
    rw [makeSl _ _ _ _ _ N N (by simp) (by simp) (Nat.le_refl _) (by omega)]
    simp [evC_loop]
    generalize hL : loopC _ _ _ _ = L
    obtain ⟨t4, s2, rfl, p0, p1, p17, pK, pO⟩ := loop_use hL 3 N
      (fun i t s => tget t 0 = .p w 0 ∧ tget t 1 = .p r 0 ∧ tget t 5 = .p a 0 ∧ tget t 17 = .sl s0.next 0 N 1 (some N) ∧ tget t 18 = .i .i64 (i : Int) ∧ Kp [] [] s0 s ∧ s0.next < s.next ∧ HasFill s s0.next N i c)
      (fun t s => tget t 0 = .p w 0 ∧ tget t 1 = .p r 0 ∧ tget t 17 = .sl s0.next 0 N 1 (some N) ∧ Kp [] [] s0 s ∧ Own s (.sl s0.next 0 N 1 (some N)) (List.replicate N (.i .u8 c)) s0.next) (by omega)
      ⟨by simp, by simp, by simp, by simp, by simp, k01, Nat.lt_succ_self _, _, _, newCe_ce _, by rw [rep_length]; simp, by simp⟩
      (by
        rintro i t s hi ⟨i0, i1, i5, i17, i18, iK, iN, l, al, ic, il, it⟩
        clear hL
        have e4 : wr .i64 ((i : Int) + 1) = ((i + 1 : Nat) : Int) := by rw [wr_in (by omega) (by omega)]; rfl
        have e5 : (i : Int) < (N : Int) := by omega
        have hix := index_sl (P := Try.prog) Try.underlying26 inf5 sz5 s0.next 0 N i (some N) hi
        have hw := wt_of ic i [.i .u8 c] (by simp; omega) (by simp)
        have hca := iK.ce hc0 ha0 ha0 (by simp) (by simp)
        simp [i5, i17, i18, e4, e5, len_sl Try.underlying26 (show lenOf (.sl s0.next 0 N 1 (some N)) = some N from rfl) rfl, hix, aoff2, load_p inf5 ag5, rd_of hca, store_p inf5 sz5, hw]
        refine ⟨_, _, ⟨rfl, rfl⟩, by simp [i0], by simp [i1], by simp [i5], by simp [i17], by simp, kp_new iK (.setCe (A := [s0.next]) (B := [s0.next]) (by simp) (by simp)) (by simp) (by simp), iN, _, _, setCe_ce _ _ _, ?_, ?_⟩
        · rw [ovr_one, List.length_set]; exact il
        · rw [ovr_one, List.take_add_one, List.take_set_of_le (Nat.le_refl _), it, List.getElem?_set_self (by omega), List.replicate_succ']; rfl)
      (by
        rintro t s ⟨i0, i1, i5, i17, i18, iK, iN, l, al, ic, il, it⟩
        clear hL
        simp [i17, i18, len_sl Try.underlying26 (show lenOf (.sl s0.next 0 N 1 (some N)) = some N from rfl) rfl]
        refine ⟨_, _, ⟨rfl, rfl⟩, by simp [i0], by simp [i1], by simp [i17], iK, some N, l, al, by simp, ic, by simpa using it, iN⟩)
    have hOr : ∀ {X : List Nat}, s0.next ∉ X → Rd s2 X (.sl s0.next 0 N 1 (some N)) (List.replicate N (.i .u8 c)) := fun hX => Own_rd pO hX
    have n1 : s0.next ∉ [w, ch] := by simp; omega
    have n2 : s0.next ∉ [w, ch, r] := by simp; omega
    obtain ⟨e, s3, f1, f2, f2', f3⟩ := feed_both h0 pK (hOr n1) (fun x hx => ⟨c, (List.mem_replicate.1 hx).2⟩) (by simp; omega) n hn
    obtain ⟨s4, g1, g2⟩ := f3 s3 f2 (fun _ _ _ h => h) _ ((hOr n2).keep f2' (fun x hx => by simp at hx ⊢; omega) (fun x hx => by simp at hx ⊢; omega))
    refine ⟨s4, ?_, g2⟩
    simp [p0, p1, p17, callF_of Try.func9 rfl, callF_of Try.func25 rfl, f1, g1, resOf_eq, pmapO]
end
end Go.Proofs.Ytnklglbnblbbeaa
