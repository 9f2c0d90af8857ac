/-
  The run of WorldScript, of any calls: it comes to true.
-/
import Derived.Test.YtnklglbnblbbeaaBoth
import Derived.Test.YtnklglbnblbbeaaChunks
namespace Go.Proofs.Ytnklglbnblbbeaa
open Go.Ev
set_option maxRecDepth 100000

theorem inf36 : hasInfo Try.prog 36 = true := by kernel_rfl
theorem ag36 : isAg Try.prog 36 = true := by kernel_rfl
theorem sz36 : szOf Try.prog 36 = 4 := by kernel_rfl

/-- A call, as it is handed in. -/
structure Ac where
  k : Int
  bv : AV
  bc : List AV
  c : Int
  m : Int
def Ac.cells (x : Ac) : List AV := [.i .i64 x.k, x.bv, .i .u8 x.c, .i .i64 x.m]
structure Ac.Ok (x : Ac) : Prop where
  sl : IsSl x.bv x.bc
  by1 : ∀ c ∈ x.bc, ∃ b, c = .i .u8 b
def IsActs (v : AV) (L : List Ac) : Prop := (v = .sn ∧ L = []) ∨ v = .rs (L.map Ac.cells).flatten L.length 4

theorem acts_drop : ∀ (L : List Ac) (i : Nat) (h : i < L.length), (L.map Ac.cells).flatten.drop (i * 4) = .i .i64 L[i].k :: L[i].bv :: .i .u8 L[i].c :: .i .i64 L[i].m :: ((L.drop (i + 1)).map Ac.cells).flatten
  | x :: L, 0, _ => by simp [Ac.cells]
  | x :: L, i + 1, h => by
    have := acts_drop L i (by simpa using h)
    rw [show (i + 1) * 4 = i * 4 + 4 by omega]
    simpa [Ac.cells] using this
theorem take4 (a b c d : AV) (l : List AV) : takeN 4 (a :: b :: c :: d :: l) = some [a, b, c, d] := by
  simp [takeN]

/-- The first i of them are of bounded size. -/
def Seen (L : List Ac) (i : Nat) : Prop := ∀ j (hj : j < L.length), j < i → L[j].bc.length ≤ 4000 ∧ L[j].m ≤ 1048586
/-- So many great ones, at the most. -/
def Great (v : AV) (i : Nat) : Prop := ∃ gr : Nat, v = .i .i64 (gr : Int) ∧ gr ≤ i

section
variable {L : List Ac} {v : AV}
theorem script_body (hg : ∀ x ∈ L, x.Ok) (hv : IsActs v L) (n : Nat) (hn : 1048600 ≤ n) :
    ∃ st', endF Try.prog Try.f5.results.toList (evC (Try.f5.body.getD .skip) ⟨Try.prog, withTrue 7 (self Try.prog (n + 3)), false, Try.f5.ntmps, n⟩ (tmpsOf [v] 0 .lf) st0) = some (.b true, st') := by
  have hlen : lenOf v = some L.length := by rcases hv with ⟨rfl, rfl⟩ | rfl <;> rfl
  have htext : isText v = false := by rcases hv with ⟨rfl, rfl⟩ | rfl <;> rfl
  have hvr : ∀ i, i < L.length → v = .rs (L.map Ac.cells).flatten L.length 4 := by
    intro i hi
    rcases hv with ⟨rfl, rfl⟩ | hv
    · cases hi
    · exact hv
  simp [Try.f5, callF_of Try.func7 rfl, withTrue_self, evC_loop]
  generalize hL : loopC _ _ _ _ = Lo
  have step : _ := loop_ret hL 0 (min L.length 202)
    (fun i t s => s = st0 ∧ tget t 0 = v ∧ tget t 4 = .i .i64 (i : Int) ∧ i ≤ L.length ∧ i ≤ 201 ∧ Great (tget t 3) i ∧ Seen L i)
    (fun t s => s = st0 ∧ tget t 0 = v ∧ Great (tget t 3) 201 ∧ L.length ≤ 201 ∧ Seen L L.length)
    (fun t s => tget t 2 = .b true) (by omega)
    ⟨rfl, by simp, by simp, Nat.zero_le _, by omega, ⟨0, by simp, Nat.le_refl _⟩, fun j hj h => by omega⟩
    (by
      rintro i t s hi ⟨rfl, i0, i4, h1, h2, ⟨gr, i3, hgr⟩, hall⟩
      clear hL
      have hi' : i < L.length := by omega
      have e5 : (i : Int) < (L.length : Int) := by omega
      have e6 : wr .i64 ((i : Int) + 1) = ((i + 1 : Nat) : Int) := by rw [wr_in (by omega) (by omega)]; rfl
      have e7 : wr .i64 ((gr : Int) + 1) = ((gr + 1 : Nat) : Int) := by rw [wr_in (by omega) (by omega)]; rfl
      have ix := index_rs (P := Try.prog) Try.underlying34 inf36 sz36 (L.map Ac.cells).flatten L.length i hi'
      rw [acts_drop L i hi', ← hvr i hi'] at ix
      have hok := hg L[i] (List.getElem_mem hi')
      have iL := fun st : St => len_sl (st := st) Try.underlying26 hok.sl.len hok.sl.text
      have vL := fun st : St => len_sl (st := st) Try.underlying34 hlen htext
      have pkk := fun (st : St) => pick_call (st := st) L[i].k (n + 2)
      by_cases cA : 4000 < L[i].bc.length
      · right
        have e8 : (4000 : Int) < (L[i].bc.length : Int) := by omega
        simp [i0, i4, e5, vL, ix, aoff1, load_rp inf26 ag26, iL, e8]
      · have e8 : ¬ (4000 : Int) < (L[i].bc.length : Int) := by omega
        by_cases cB : 1048586 < L[i].m
        · right
          simp [i0, i4, e5, vL, ix, aoff1, aoff3, load_rp inf26 ag26, load_rp inf3 ag3, iL, e8, cB]
        · by_cases cC : 200 < i
          · right
            have e9 : (200 : Int) < (i : Int) := by omega
            simp [i0, i4, e5, vL, ix, aoff1, aoff3, load_rp inf26 ag26, load_rp inf3 ag3, iL, e8, cB, e9]
          · left
            have e9 : ¬ (200 : Int) < (i : Int) := by omega
            have hseen : Seen L (i + 1) := by
              intro j hj hji
              by_cases hje : j = i
              · subst hje; exact ⟨by omega, by omega⟩
              · exact hall j hj (by omega)
            by_cases cD : pk L[i].k = 5
            · by_cases cE : 4000 < L[i].m
              · simp [i0, i3, i4, e5, vL, ix, aoff0, aoff1, aoff3, load_rp inf26 ag26, load_rp inf3 ag3, iL, e8, cB, e9, callF_of Try.func15 rfl, withTrue_ne, pkk, cD, cE, e6, e7]
                refine ⟨_, _, ⟨rfl, rfl⟩, rfl, by simp [i0], by simp, by omega, by omega, ⟨gr + 1, by simp, by omega⟩, hseen⟩
              · simp [i0, i3, i4, e5, vL, ix, aoff0, aoff1, aoff3, load_rp inf26 ag26, load_rp inf3 ag3, iL, e8, cB, e9, callF_of Try.func15 rfl, withTrue_ne, pkk, cD, cE, e6, e7]
                refine ⟨_, _, ⟨rfl, rfl⟩, rfl, by simp [i0], by simp, by omega, by omega, ⟨gr, by simp [i3], by omega⟩, hseen⟩
            · simp [i0, i3, i4, e5, vL, ix, aoff0, aoff1, aoff3, load_rp inf26 ag26, load_rp inf3 ag3, iL, e8, cB, e9, callF_of Try.func15 rfl, withTrue_ne, pkk, cD, e6, e7]
              refine ⟨_, _, ⟨rfl, rfl⟩, rfl, by simp [i0], by simp, by omega, by omega, ⟨gr, by simp [i3], by omega⟩, hseen⟩)
    (by
      rintro t s ⟨rfl, i0, i4, h1, h2, ⟨gr, i3, hgr⟩, hall⟩
      clear hL
      have hm : min L.length 202 = L.length := by omega
      rw [hm] at i4 hall
      simp [i0, i4, len_sl Try.underlying34 hlen htext]
      refine ⟨_, _, ⟨rfl, rfl⟩, rfl, by simp [i0], ⟨gr, by simp [i3], by omega⟩, by omega, hall⟩)
  clear hL
  rcases step with ⟨t2, s2, rfl, rfl, q0, ⟨gr, q3, hgr⟩, hL201, hseen⟩ | ⟨t2, s2, rfl, q2⟩
  case inr =>
    refine ⟨s2, ?_⟩
    simp [resOf_eq, pmapO, q2]
  case inl =>
    by_cases h200 : 200 < L.length
    · have e1 : (200 : Int) < (L.length : Int) := by omega
      refine ⟨st0, ?_⟩
      simp [q0, len_sl Try.underlying34 hlen htext, e1, resOf_eq, pmapO]
    · have e1 : ¬ (200 : Int) < (L.length : Int) := by omega
      by_cases hg2 : 2 < gr
      · have e2 : (2 : Int) < (gr : Int) := by omega
        refine ⟨st0, ?_⟩
        simp [q0, q3, len_sl Try.underlying34 hlen htext, e1, e2, resOf_eq, pmapO]
      · have e2 : ¬ (2 : Int) < (gr : Int) := by omega
        obtain ⟨s1, w, ch, k1, kW⟩ := new_call st0 (n + 2)
        obtain ⟨s3, m1, mR, mK⟩ := rnew_call s1 (n + 2)
        have hrw : s1.next ≠ w := (Nat.ne_of_lt kW.wlt).symm
        have hrc : s1.next ≠ ch := (Nat.ne_of_lt kW.clt).symm
        have hA : Alike s3 w ch s1.next := ⟨.sn, .sn, .sn, [], [], 0, false, none, none, none, by simpa using kW.kp mK (by simp) (by simp) (by simp), mR, .inl ⟨rfl, rfl, rfl⟩, .inl ⟨rfl, rfl, rfl⟩, .inl ⟨rfl, rfl, rfl⟩, by simp, by simp, by simp, by simp, by simp, hrw, hrc,
          fun x hx => (by cases hx), fun x hx => (by cases hx), fun x hx => (by cases hx)⟩
        generalize s1.next = r at m1 mR hrw hrc hA
        simp [q0, q3, len_sl Try.underlying34 hlen htext, e1, e2, callF_of Try.func8 rfl, callF_of Try.func16 rfl, withTrue_ne, k1, m1, evC_loop]
        generalize hL : loopC _ _ _ _ = Lo
        obtain ⟨t5, s5, rfl, -⟩ := loop_use hL 2 L.length
          (fun i t s => tget t 0 = v ∧ tget t 5 = .p w 0 ∧ tget t 6 = .p r 0 ∧ tget t 7 = .i .i64 (i : Int) ∧ Alike s w ch r) (fun t s => True) (by omega)
          ⟨by simp [q0], by simp, by simp, by simp, hA⟩
          (by
            rintro i t s hi ⟨i0, i5, i6, i7, out, inn, wrote, ci, cs, used, ended, gO, gI, gW, hB⟩
            clear hL
            have e5 : (i : Int) < (L.length : Int) := by omega
            have e6 : wr .i64 ((i : Int) + 1) = ((i + 1 : Nat) : Int) := by rw [wr_in (by omega) (by omega)]; rfl
            have ix := index_rs (P := Try.prog) Try.underlying34 inf36 sz36 (L.map Ac.cells).flatten L.length i hi
            rw [acts_drop L i hi, ← hvr i hi] at ix
            have hok := hg L[i] (List.getElem_mem hi)
            obtain ⟨hs1, hs2⟩ := hseen i hi hi
            have vL := fun st : St => len_sl (st := st) Try.underlying34 hlen htext
            obtain ⟨s6, f1, out', inn', wrote', ci', cs', used', ended', gO', gI', gW', hB'⟩ := act_call (k := L[i].k) (c := L[i].c) (m := L[i].m) hB hok.sl hok.by1 hs1 hs2 n hn
            obtain ⟨s7, g1, g2⟩ := same_w hB'.W hB'.R hB'.O hB'.I hB'.V hB'.bs hB'.X hB'.u (by simp) hB'.li hB'.ls n (by have := hB'.ls; omega)
            have hA7 : Alike s7 w ch r := ⟨_, _, _, _, _, _, _, _, _, _, hB'.keep g2⟩
            simp [i0, i5, i6, i7, e5, e6, vL, ix, load_rpAg inf36 ag36, sz36, take4, agOf, callF_of Try.func17 rfl, callF_of Try.func18 rfl, withTrue_ne, f1, g1]
            refine ⟨_, _, ⟨rfl, rfl⟩, by simp [i0], by simp [i5], by simp [i6], by simp, hA7⟩)
          (by
            rintro t s ⟨i0, i5, i6, i7, iA⟩
            clear hL
            simp [i0, i7, len_sl Try.underlying34 hlen htext])
        refine ⟨s5, ?_⟩
        simp [resOf_eq, pmapO]
end
end Go.Proofs.Ytnklglbnblbbeaa
