/-
  What Atom, strict and first answer, of any expression.
-/
import Derived.Test.YtfhhbndndhnpjaaGreatDoorEvEx
import Derived.Test.YtfhhbndndhnpjaaGreatDoorChecked
import Derived.KernelRfl
namespace Go.Proofs.YtfhhbndndhnpjaaGreatDoor
open Go.Ev
set_option maxRecDepth 100000

theorem off27_0 : fieldOff Tryz.prog 27 0 = some 0 := by kernel_rfl
theorem off27_1 : fieldOff Tryz.prog 27 1 = some 1 := by kernel_rfl
theorem off27_4 : fieldOff Tryz.prog 27 4 = some 4 := by kernel_rfl
theorem off27_5 : fieldOff Tryz.prog 27 5 = some 5 := by kernel_rfl
theorem off27_6 : fieldOff Tryz.prog 27 6 = some 6 := by kernel_rfl
theorem off41_1 : fieldOff Tryz.prog 41 1 = some 1 := by kernel_rfl
theorem off46_4 : fieldOff Tryz.prog 46 4 = some 4 := by kernel_rfl
theorem off91_0 : fieldOff Tryz.prog 91 0 = some 0 := by kernel_rfl
theorem off91_1 : fieldOff Tryz.prog 91 1 = some 1 := by kernel_rfl
theorem inf3 : hasInfo Tryz.prog 3 = true := by kernel_rfl
theorem ag3 : isAg Tryz.prog 3 = false := by kernel_rfl
theorem sz3 : szOf Tryz.prog 3 = 1 := by kernel_rfl
theorem inf4 : hasInfo Tryz.prog 4 = true := by kernel_rfl
theorem ag4 : isAg Tryz.prog 4 = false := by kernel_rfl
theorem sz4 : szOf Tryz.prog 4 = 1 := by kernel_rfl
theorem inf9 : hasInfo Tryz.prog 9 = true := by kernel_rfl
theorem ag9 : isAg Tryz.prog 9 = false := by kernel_rfl
theorem inf23 : hasInfo Tryz.prog 23 = true := by kernel_rfl
theorem ag23 : isAg Tryz.prog 23 = false := by kernel_rfl
theorem inf24 : hasInfo Tryz.prog 24 = true := by kernel_rfl
theorem ag24 : isAg Tryz.prog 24 = false := by kernel_rfl
theorem inf25 : hasInfo Tryz.prog 25 = true := by kernel_rfl
theorem ag25 : isAg Tryz.prog 25 = false := by kernel_rfl
theorem inf27 : hasInfo Tryz.prog 27 = true := by kernel_rfl
theorem ag27 : isAg Tryz.prog 27 = true := by kernel_rfl
theorem sz27 : szOf Tryz.prog 27 = 7 := by kernel_rfl
theorem inf41 : hasInfo Tryz.prog 41 = true := by kernel_rfl
theorem ag41 : isAg Tryz.prog 41 = true := by kernel_rfl
theorem sz41 : szOf Tryz.prog 41 = 8 := by kernel_rfl
theorem inf46 : hasInfo Tryz.prog 46 = true := by kernel_rfl
theorem ag46 : isAg Tryz.prog 46 = true := by kernel_rfl
theorem sz46 : szOf Tryz.prog 46 = 11 := by kernel_rfl

/-- What Strict answers, of names. -/
def Fw (F : List Nat → Int) : List AV → Option AV
  | [.s l] => some (.i .i64 (F l))
  | _ => none
/-- Strict by its contract; lives known. -/
noncomputable def Wr (F : List Nat → Int) (S : Self) : Self := withPure 63 (Fw F) (withTrue 12 S)

theorem withTrue_ne {S : Self} {g f : FuncId} {xs : List AV} {st : St} (h : f ≠ g) : (withTrue g S).call f xs st = S.call f xs st := by
  show @Bool.rec (fun _ => Res) (S.call f xs st) _ (Nat.beq f g) = _
  rw [nbeq, decide_eq_false h]
theorem wr_ne {F : List Nat → Int} {f : FuncId} (h1 : f ≠ 63) (h2 : f ≠ 12) (S : Self) (xs : List AV) (st : St) : (Wr F S).call f xs st = S.call f xs st := by
  unfold Wr; rw [withPure_ne h1, withTrue_ne h2]

section
variable {F : List Nat → Int} {st : St}

theorem strict63 (l : List Nat) (n : Nat) : (selfW Tryz.prog (Wr F) (n + 1)).call 63 [.s l] st = some (.i .i64 (F l), st) := by
  show (Wr F _).call 63 [.s l] st = _
  unfold Wr
  exact withPure_eq rfl

/-- An expression that stands in a row. -/
structure ExAt (s : St) (p : Nat) (cl : List AV) (k : Int) (nm : List Nat) (b a l : ExL) : Prop where
  kd : rd s p 0 1 = some [.i .i64 k]
  nm : rd s p 1 1 = some [.s nm]
  b : rd s p 4 1 = some [b.slice 8]
  a : rd s p 5 1 = some [a.slice 7]
  l : rd s p 6 1 = some [l.slice 11]
  all : rd s p 0 7 = some cl
theorem exAt {s : St} {p : Nat} {k : Int} {nm : List Nat} {num : Int} {ps : AV} {b a l : ExL} {g : Nat} {al : List Nat} (hc : s.ce p = some ((Ex.mk k nm num ps b a l).cells, g, al)) : ExAt s p (Ex.mk k nm num ps b a l).cells k nm b a l := by
  unfold Ex.cells at hc ⊢
  exact ⟨by rw [rd_of hc]; rfl, by rw [rd_of hc]; rfl, by rw [rd_of hc]; rfl, by rw [rd_of hc]; rfl, by rw [rd_of hc]; rfl, by rw [rd_of hc]; rfl⟩

theorem atom_call (x : Ex) (n : Nat) : (selfW Tryz.prog (Wr F) (n + 1)).call 14 [.ag x.cells] st = some (.b x.atom, st.newCe x.cells) := by
  rw [body_eqW (W := Wr F) (fun S xs st => wr_ne (by decide) (by decide) S xs st) Tryz.func14 rfl (Nat.le_of_ble_eq_true rfl)]
  obtain ⟨k, nm, num, ps, b, a, l⟩ := x
  have hc := exAt (newCe_ce (st := st) (Ex.mk k nm num ps b a l).cells)
  unfold Ex.atom atomK Ex.kind
  generalize (Ex.mk k nm num ps b a l).cells = cl at *
  by_cases h1 : k = 1
  · simp [Tryz.f14, off27_0, load_p inf3 ag3, hc.kd, h1, resOf_eq, pmapO]
  · by_cases h2 : k = 2
    · simp [Tryz.f14, off27_0, load_p inf3 ag3, hc.kd, h1, h2, resOf_eq, pmapO]
    · simp [Tryz.f14, off27_0, load_p inf3 ag3, hc.kd, h1, h2, resOf_eq, pmapO]

/-- How many of an expression's arguments need be no atoms: strict; first. -/
def strictK (F : List Nat → Int) (k : Int) (nm : List Nat) (n : Nat) : Int := if k = 4 then 0 else if k = 6 then 1 else if k = 9 then ((F nm).toNat : Int) else (n : Int)
def firstK (F : List Nat → Int) (k : Int) (nm : List Nat) (n : Nat) : Int := if k = 5 ∨ k = 7 ∨ k = 8 then 1 else strictK F k nm n

theorem strict_call (k : Int) (nm : List Nat) (num : Int) (ps : AV) (b a l : ExL) (n : Nat) :
    (selfW Tryz.prog (Wr F) (n + 2)).call 44 [.ag (Ex.mk k nm num ps b a l).cells] st = some (.i .i64 (strictK F k nm a.len), st.newCe (Ex.mk k nm num ps b a l).cells) := by
  rw [body_eqW (W := Wr F) (fun S xs st => wr_ne (by decide) (by decide) S xs st) Tryz.func44 rfl (Nat.le_of_ble_eq_true rfl)]
  have hc := exAt (newCe_ce (st := st) (Ex.mk k nm num ps b a l).cells)
  generalize (Ex.mk k nm num ps b a l).cells = cl at *
  unfold strictK
  by_cases h1 : k = 4
  · simp [Tryz.f44, off27_0, load_p inf3 ag3, hc.kd, h1, resOf_eq, pmapO]
  · by_cases h2 : k = 6
    · simp [Tryz.f44, off27_0, load_p inf3 ag3, hc.kd, h1, h2, resOf_eq, pmapO]
    · by_cases h3 : k = 9
      · simp [Tryz.f44, off27_0, off27_1, load_p inf3 ag3, load_p inf9 ag9, hc.kd, hc.nm, h1, h2, h3, callF_of Tryz.func63 rfl, strict63, max_zero, resOf_eq, pmapO]
      · simp [Tryz.f44, off27_0, off27_5, load_p inf3 ag3, load_p inf24 ag24, hc.kd, hc.a, h1, h2, h3, len_sl Tryz.underlying24 (a.slice_len 7) (a.slice_text 7), resOf_eq, pmapO]

theorem first_call (k : Int) (nm : List Nat) (num : Int) (ps : AV) (b a l : ExL) (n : Nat) :
    ∃ st', (selfW Tryz.prog (Wr F) (n + 3)).call 49 [.ag (Ex.mk k nm num ps b a l).cells] st = some (.i .i64 (firstK F k nm a.len), st') ∧ Kp [] [] st st' := by
  have hs := strict_call (F := F) (st := st.newCe (Ex.mk k nm num ps b a l).cells) k nm num ps b a l n
  have hc := exAt (newCe_ce (st := st) (Ex.mk k nm num ps b a l).cells)
  rw [body_eqW (W := Wr F) (fun S xs st => wr_ne (by decide) (by decide) S xs st) Tryz.func49 rfl (Nat.le_of_ble_eq_true rfl)]
  generalize (Ex.mk k nm num ps b a l).cells = cl at *
  unfold firstK
  by_cases h1 : k = 5
  · refine ⟨_, ?_, .newCe _ _ cl⟩
    simp [Tryz.f49, off27_0, load_p inf3 ag3, hc.kd, h1, resOf_eq, pmapO]
  · by_cases h2 : k = 7
    · refine ⟨_, ?_, .newCe _ _ cl⟩
      simp [Tryz.f49, off27_0, load_p inf3 ag3, hc.kd, h1, h2, resOf_eq, pmapO]
    · by_cases h3 : k = 8
      · refine ⟨_, ?_, .newCe _ _ cl⟩
        simp [Tryz.f49, off27_0, load_p inf3 ag3, hc.kd, h1, h2, h3, resOf_eq, pmapO]
      · refine ⟨_, ?_, (Kp.newCe _ _ cl).trans (.newCe _ _ cl)⟩
        simp [Tryz.f49, off27_0, load_p inf3 ag3, load_ag inf27 ag27, sz27, hc.kd, hc.all, h1, h2, h3, callF_of Tryz.func44 rfl, hs, resOf_eq, pmapO]
end
end Go.Proofs.YtfhhbndndhnpjaaGreatDoor

/-
  What counted answers: how many expressions there are, up to a bound.
-/
namespace Go.Proofs.YtfhhbndndhnpjaaGreatDoor
open Go.Ev
set_option maxRecDepth 100000

/-- So many counted, behind the first i parts. -/
structure Cnt (n base most : Nat) (L : List (List AV × Ex)) (i m : Nat) : Prop where
  lo : n < m
  hi : m ≤ max n most + 1
  eq : m ≤ most → m = base + sumTo L i
/-- A slot that holds so many. -/
def CntS (v : AV) (n base most : Nat) (L : List (List AV × Ex)) (i : Nat) : Prop := ∃ m : Nat, v = .i .i64 (m : Int) ∧ Cnt n base most L i m

section
variable {F : List Nat → Int}
def CountedOK (F : List Nat → Int) (x : Ex) : Prop := x.Wf → ∀ (n most : Nat) (st : St) (N : Nat), x.size + 5 ≤ N → n ≤ 1000000000 → most ≤ 1000000000 →
  ∃ (m : Nat) (st' : St), (selfW Tryz.prog (Wr F) N).call 29 [.ag x.cells, .i .i64 (n : Int), .i .i64 (most : Int)] st = some (.i .i64 (m : Int), st') ∧ Kp [] [] st st' ∧ n < m ∧ m ≤ max n most + 1 ∧ (m ≤ most → m = n + x.size)

theorem counted_call : ∀ x, CountedOK F x := by
  refine Ex.ind fun k nm num ps b a l hb ha hl => ?_
  intro hwf n most st N hN hn hm
  simp only [Ex.Wf] at hwf
  obtain ⟨-, ⟨pb, pa, pl⟩, ⟨wb, wa, wl⟩, -⟩ := hwf
  obtain ⟨N, rfl⟩ : ∃ N', N = N' + 1 := ⟨N - 1, by omega⟩
  have hsz : (Ex.mk k nm num ps b a l).size = 1 + b.size + a.size + l.size := by simp only [Ex.size]
  rw [hsz] at hN
  rw [body_eqW (W := Wr F) (fun S xs st => wr_ne (by decide) (by decide) S xs st) Tryz.func29 rfl (Nat.le_of_ble_eq_true rfl)]
  have hce := newCe_ce (st := st) (Ex.mk k nm num ps b a l).cells
  have hp : st.next < (st.newCe (Ex.mk k nm num ps b a l).cells).next := Nat.lt_succ_self _
  have k0 : Kp [] [] st (st.newCe (Ex.mk k nm num ps b a l).cells) := .newCe _ _ _
  obtain ⟨s0, hs0⟩ : ∃ s0, st.newCe (Ex.mk k nm num ps b a l).cells = s0 := ⟨_, rfl⟩
  rw [hs0] at k0 hp hce
  have at1 : ∀ {s : St}, Kp [] [] s0 s → ExAt s st.next (Ex.mk k nm num ps b a l).cells k nm b a l := fun kk => exAt (kk.ce hce hp hp (by simp) (by simp))
  have e1 : wr .i64 ((n : Int) + 1) = ((n + 1 : Nat) : Int) := by rw [wr_in (by omega) (by omega)]; rfl
  simp [Tryz.f29, e1, hs0, evC_loop]
  generalize hL : loopC _ _ _ _ = Lo
  obtain ⟨t1, s1, rfl, a1, b1, c1, d1⟩ := loop_ex hL 0 a.list.length
    (fun i t s => tget t 2 = .i .i64 (most : Int) ∧ tget t 3 = .p st.next 0 ∧ tget t 7 = .i .i64 (i : Int) ∧ Kp [] [] s0 s ∧ CntS (tget t 1) n (n + 1) most a.list i)
    (fun t s => tget t 2 = .i .i64 (most : Int) ∧ tget t 3 = .p st.next 0 ∧ Kp [] [] s0 s ∧ CntS (tget t 1) n (n + 1) most a.list a.list.length)
    (by rw [← ExL.len_eq]; have := a.len_le; omega)
    ⟨by simp, by simp, by simp, .refl _ _ _, n + 1, by simp, Nat.lt_succ_self _, by omega, fun _ => by rw [sumTo_zero]⟩
    (by
      rintro i t s hi ⟨i2, i3, i7, iK, m, i1, iC⟩
      clear hL
      have hx := at1 iK
      have hil : i < a.len := by rw [ExL.len_eq]; exact hi
      have e5 : (i : Int) < (a.len : Int) := by omega
      have vl := fun st : St => len_sl (st := st) Tryz.underlying24 (a.slice_len 7) (a.slice_text 7)
      by_cases hm' : m ≤ most
      · left
        have e6 : (m : Int) ≤ (most : Int) := by omega
        have e7 : wr .i64 ((i : Int) + 1) = ((i + 1 : Nat) : Int) := by
          have := sumTo_ge a.list i (by omega)
          have := iC.eq hm'
          rw [wr_in (by omega) (by omega)]; rfl
        obtain ⟨r, r1, r2⟩ := part_at pa (show 0 + 7 = 7 from rfl) hi
        have ix := index_rs (P := Tryz.prog) Tryz.underlying24 inf27 sz27 a.flat a.len i hil
        rw [← ExL.slice_rs hil, r1, List.eq_nil_of_length_eq_zero r2, List.nil_append] at ix
        have hmem := List.getElem_mem hi
        have hsz' := ExL.size_mem hmem
        obtain ⟨m', s', g1, g2, g3, g4, g5⟩ := ha _ hmem (ExL.wf_list wa _ hmem).1 m most s N (by omega) (by have := iC.hi; omega) hm
        have hd : True := trivial
        simp [i1, i2, i3, i7, off27_5, load_p inf24 ag24, hx.a, vl, e5, e6, ix, hd, load_rpAg inf27 ag27, sz27, take_cells, callF_of Tryz.func29 rfl, g1, e7]
        refine ⟨_, _, ⟨rfl, rfl⟩, by simp [i2], by simp [i3], by simp, iK.trans g2, m', by simp, ⟨by have := iC.lo; omega, by have := iC.hi; omega, fun h => ?_⟩⟩
        rw [sumTo_succ hi, g5 h, iC.eq hm']; omega
      · right
        have e6 : ¬ (m : Int) ≤ (most : Int) := by omega
        simp [i1, i2, i3, i7, off27_5, load_p inf24 ag24, hx.a, vl, e5, e6]
        exact ⟨_, _, ⟨rfl, rfl⟩, by simp [i2], by simp [i3], iK, m, by simp [i1], iC.lo, iC.hi, fun h => absurd h hm'⟩)
    (by
      rintro t s ⟨i2, i3, i7, iK, m, i1, iC⟩
      clear hL
      have hx := at1 iK
      have vl := fun st : St => len_sl (st := st) Tryz.underlying24 (a.slice_len 7) (a.slice_text 7)
      simp [i3, i7, off27_5, load_p inf24 ag24, hx.a, vl, ExL.len_eq]
      exact ⟨_, _, ⟨rfl, rfl⟩, by simp [i2], by simp [i3], iK, m, by simp [i1], iC⟩)
  clear hL
  obtain ⟨m1, u1, v1⟩ := d1
  simp [a1, b1, u1, evC_loop]
  generalize hL : loopC _ _ _ _ = Lo
  obtain ⟨t2, s2, rfl, a2, b2, c2, d2⟩ := loop_ex hL 2 b.list.length
    (fun i t s => tget t 2 = .i .i64 (most : Int) ∧ tget t 3 = .p st.next 0 ∧ tget t 8 = .i .i64 (i : Int) ∧ Kp [] [] s0 s ∧ CntS (tget t 1) n (n + 1 + a.size) most b.list i)
    (fun t s => tget t 2 = .i .i64 (most : Int) ∧ tget t 3 = .p st.next 0 ∧ Kp [] [] s0 s ∧ CntS (tget t 1) n (n + 1 + a.size) most b.list b.list.length)
    (by rw [← ExL.len_eq]; have := b.len_le; omega)
    ⟨by simp [a1], by simp [b1], by simp, c1, m1, by simp [u1], v1.lo, v1.hi, fun h => by rw [sumTo_zero, v1.eq h, sumTo_all]; rfl⟩
    (by
      rintro i t s hi ⟨i2, i3, i7, iK, m, i1, iC⟩
      clear hL
      have hx := at1 iK
      have hil : i < b.len := by rw [ExL.len_eq]; exact hi
      have e5 : (i : Int) < (b.len : Int) := by omega
      have vl := fun st : St => len_sl (st := st) Tryz.underlying23 (b.slice_len 8) (b.slice_text 8)
      by_cases hm' : m ≤ most
      · left
        have e6 : (m : Int) ≤ (most : Int) := by omega
        have e7 : wr .i64 ((i : Int) + 1) = ((i + 1 : Nat) : Int) := by
          have := sumTo_ge b.list i (by omega)
          have := iC.eq hm'
          rw [wr_in (by omega) (by omega)]; rfl
        obtain ⟨r, r1, r2⟩ := part_at pb (show 1 + 7 = 8 from rfl) hi
        have ix := index_rs (P := Tryz.prog) Tryz.underlying23 inf41 sz41 b.flat b.len i hil
        rw [← ExL.slice_rs hil, r1] at ix
        have hmem := List.getElem_mem hi
        have hsz' := ExL.size_mem hmem
        obtain ⟨m', s', g1, g2, g3, g4, g5⟩ := hb _ hmem (ExL.wf_list wb _ hmem).1 m most s N (by omega) (by have := iC.hi; omega) hm
        have hd : (b.list[i].1 ++ (b.list[i].2.cells ++ r)).drop 1 = b.list[i].2.cells ++ r := by rw [List.drop_append, r2]; simp [r2, List.drop_eq_nil_of_le]
        simp [i1, i2, i3, i7, off27_4, load_p inf23 ag23, hx.b, vl, e5, e6, ix, off41_1, hd, load_rpAg inf27 ag27, sz27, take_cells, callF_of Tryz.func29 rfl, g1, e7]
        refine ⟨_, _, ⟨rfl, rfl⟩, by simp [i2], by simp [i3], by simp, iK.trans g2, m', by simp, ⟨by have := iC.lo; omega, by have := iC.hi; omega, fun h => ?_⟩⟩
        rw [sumTo_succ hi, g5 h, iC.eq hm']; omega
      · right
        have e6 : ¬ (m : Int) ≤ (most : Int) := by omega
        simp [i1, i2, i3, i7, off27_4, load_p inf23 ag23, hx.b, vl, e5, e6]
        exact ⟨_, _, ⟨rfl, rfl⟩, by simp [i2], by simp [i3], iK, m, by simp [i1], iC.lo, iC.hi, fun h => absurd h hm'⟩)
    (by
      rintro t s ⟨i2, i3, i7, iK, m, i1, iC⟩
      clear hL
      have hx := at1 iK
      have vl := fun st : St => len_sl (st := st) Tryz.underlying23 (b.slice_len 8) (b.slice_text 8)
      simp [i3, i7, off27_4, load_p inf23 ag23, hx.b, vl, ExL.len_eq]
      exact ⟨_, _, ⟨rfl, rfl⟩, by simp [i2], by simp [i3], iK, m, by simp [i1], iC⟩)
  clear hL
  obtain ⟨m2, u2, v2⟩ := d2
  simp [a2, b2, u2, evC_loop]
  generalize hL : loopC _ _ _ _ = Lo
  obtain ⟨t3, s3, rfl, a3, b3, c3, d3⟩ := loop_ex hL 4 l.list.length
    (fun i t s => tget t 2 = .i .i64 (most : Int) ∧ tget t 3 = .p st.next 0 ∧ tget t 9 = .i .i64 (i : Int) ∧ Kp [] [] s0 s ∧ CntS (tget t 1) n (n + 1 + a.size + b.size) most l.list i)
    (fun t s => tget t 2 = .i .i64 (most : Int) ∧ tget t 3 = .p st.next 0 ∧ Kp [] [] s0 s ∧ CntS (tget t 1) n (n + 1 + a.size + b.size) most l.list l.list.length)
    (by rw [← ExL.len_eq]; have := l.len_le; omega)
    ⟨by simp [a2], by simp [b2], by simp, c2, m2, by simp [u2], v2.lo, v2.hi, fun h => by rw [sumTo_zero, v2.eq h, sumTo_all]; rfl⟩
    (by
      rintro i t s hi ⟨i2, i3, i7, iK, m, i1, iC⟩
      clear hL
      have hx := at1 iK
      have hil : i < l.len := by rw [ExL.len_eq]; exact hi
      have e5 : (i : Int) < (l.len : Int) := by omega
      have vl := fun st : St => len_sl (st := st) Tryz.underlying25 (l.slice_len 11) (l.slice_text 11)
      by_cases hm' : m ≤ most
      · left
        have e6 : (m : Int) ≤ (most : Int) := by omega
        have e7 : wr .i64 ((i : Int) + 1) = ((i + 1 : Nat) : Int) := by
          have := sumTo_ge l.list i (by omega)
          have := iC.eq hm'
          rw [wr_in (by omega) (by omega)]; rfl
        obtain ⟨r, r1, r2⟩ := part_at pl (show 4 + 7 = 11 from rfl) hi
        have ix := index_rs (P := Tryz.prog) Tryz.underlying25 inf46 sz46 l.flat l.len i hil
        rw [← ExL.slice_rs hil, r1] at ix
        have hmem := List.getElem_mem hi
        have hsz' := ExL.size_mem hmem
        obtain ⟨m', s', g1, g2, g3, g4, g5⟩ := hl _ hmem (ExL.wf_list wl _ hmem).1 m most s N (by omega) (by have := iC.hi; omega) hm
        have hd : (l.list[i].1 ++ (l.list[i].2.cells ++ r)).drop 4 = l.list[i].2.cells ++ r := by rw [List.drop_append, r2]; simp [r2, List.drop_eq_nil_of_le]
        simp [i1, i2, i3, i7, off27_6, load_p inf25 ag25, hx.l, vl, e5, e6, ix, off46_4, hd, load_rpAg inf27 ag27, sz27, take_cells, callF_of Tryz.func29 rfl, g1, e7]
        refine ⟨_, _, ⟨rfl, rfl⟩, by simp [i2], by simp [i3], by simp, iK.trans g2, m', by simp, ⟨by have := iC.lo; omega, by have := iC.hi; omega, fun h => ?_⟩⟩
        rw [sumTo_succ hi, g5 h, iC.eq hm']; omega
      · right
        have e6 : ¬ (m : Int) ≤ (most : Int) := by omega
        simp [i1, i2, i3, i7, off27_6, load_p inf25 ag25, hx.l, vl, e5, e6]
        exact ⟨_, _, ⟨rfl, rfl⟩, by simp [i2], by simp [i3], iK, m, by simp [i1], iC.lo, iC.hi, fun h => absurd h hm'⟩)
    (by
      rintro t s ⟨i2, i3, i7, iK, m, i1, iC⟩
      clear hL
      have hx := at1 iK
      have vl := fun st : St => len_sl (st := st) Tryz.underlying25 (l.slice_len 11) (l.slice_text 11)
      simp [i3, i7, off27_6, load_p inf25 ag25, hx.l, vl, ExL.len_eq]
      exact ⟨_, _, ⟨rfl, rfl⟩, by simp [i2], by simp [i3], iK, m, by simp [i1], iC⟩)
  clear hL
  obtain ⟨m3, u3, v3⟩ := d3
  refine ⟨m3, s3, ?_, k0.trans c3, v3.lo, v3.hi, fun h => ?_⟩
  · simp [u3, resOf_eq, pmapO]
  · rw [v3.eq h, sumTo_all, hsz]; omega
end
end Go.Proofs.YtfhhbndndhnpjaaGreatDoor
