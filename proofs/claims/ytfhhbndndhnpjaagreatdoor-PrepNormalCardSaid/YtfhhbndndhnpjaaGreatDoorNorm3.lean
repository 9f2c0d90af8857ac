/-
  The run of PrepNormal, of any expression: it comes to true.
-/
import Derived.Test.YtfhhbndndhnpjaaGreatDoorNorm2
import Derived.Test.YtfhhbndndhnpjaaGreatDoorStrict
namespace Go.Proofs.YtfhhbndndhnpjaaGreatDoor
open Go.Ev
set_option maxRecDepth 100000

theorem withTrue_self {S : Self} {g : FuncId} {st : St} : (withTrue g S).call g [] st = some (.b true, st) := by
  show @Bool.rec (fun _ => Res) (S.call g [] st) (some (.b true, st)) (Nat.beq g g) = _
  rw [nbeq, decide_eq_true rfl]
theorem lives12 {F : List Nat → Int} (n : Nat) (st : St) : (selfW Tryz.prog (Wr F) (n + 1)).call 12 [] st = some (.b true, st) := by
  show (Wr F _).call 12 [] st = _
  unfold Wr
  rw [withPure_ne (by decide), withTrue_self]

section
variable {F : List Nat → Int}
def BodyRes (o : Option (AV × St)) : Prop := ∃ st', o = some (.b true, st')
theorem normal_body (x : Ex) (hwf : x.Wf) (N : Nat) (hN : x.size + 20 ≤ N) :
    BodyRes (endF Tryz.prog Tryz.f4.results.toList (evC (Tryz.f4.body.getD .skip) ⟨Tryz.prog, selfW Tryz.prog (Wr F) N, false, Tryz.f4.ntmps, N⟩ (tmpsOf [.ag x.cells] 0 .lf) st0)) := by
  obtain ⟨N, rfl⟩ : ∃ N', N = N' + 1 := ⟨N - 1, by omega⟩
  have hlv := fun st : St => lives12 (F := F) N st
  obtain ⟨k, nm, num, ps, b, a, l⟩ := x
  have hx0 := hwf
  simp only [Ex.Wf] at hwf
  obtain ⟨-, ⟨pb, pa, pl⟩, ⟨wb, wa, wl⟩, -⟩ := hwf
  have hsz : (Ex.mk k nm num ps b a l).size = 1 + b.size + a.size + l.size := by simp only [Ex.size]
  have hdp : (Ex.mk k nm num ps b a l).depth = 1 + max b.depth (max a.depth l.depth) := by simp only [Ex.depth]
  have hce := newCe_ce (st := st0) (Ex.mk k nm num ps b a l).cells
  have hp : st0.next < (st0.newCe (Ex.mk k nm num ps b a l).cells).next := Nat.lt_succ_self _
  obtain ⟨p, hpe⟩ : ∃ p, st0.next = p := ⟨_, rfl⟩
  rw [hpe] at hce hp
  obtain ⟨s0, hs0⟩ : ∃ s0, st0.newCe (Ex.mk k nm num ps b a l).cells = s0 := ⟨_, rfl⟩
  rw [hs0] at hp hce
  have at1 : ∀ {s : St}, Kp [] [] s0 s → ExAt s p (Ex.mk k nm num ps b a l).cells k nm b a l := fun kk => exAt (kk.ce hce hp hp (by simp) (by simp))
  have x0 := at1 (.refl _ _ s0)
  obtain ⟨m, s1, g1, g2, g3, g4⟩ := parts_call (F := F) (st := s0) (.mk k nm num ps b a l) hx0 (N + 1) (by omega)
  have x1 := at1 g2
  have hat := atom_call (F := F) (st := s1) (.mk k nm num ps b a l) N
  obtain ⟨s2, hs2⟩ : ∃ s2, s1.newCe (Ex.mk k nm num ps b a l).cells = s2 := ⟨_, rfl⟩
  have k2 : Kp [] [] s0 s2 := by rw [← hs2]; exact g2.trans (.newCe _ _ _)
  rw [hs2] at hat
  have x2 := at1 k2
  by_cases hm : 3000 < m
  · have hm' : (3000 : Int) < (m : Int) := by omega
    refine ⟨s1, ?_⟩
    generalize (Ex.mk k nm num ps b a l).cells = cl at *
    simp [Tryz.f4, hpe, hs0, callF_of Tryz.func12 rfl, hlv, load_ag inf27 ag27, sz27, x0.all, callF_of Tryz.func16 rfl, g1, hm', resOf_eq, pmapO]
  · have hms := g4 (by omega)
    have hm' : ¬ (3000 : Int) < (m : Int) := by omega
    obtain ⟨s3, n1, n2⟩ := norm_call (F := F) (st := s2) (.mk k nm num ps b a l) hx0 (by omega) (N + 1) (by omega)
    have k3 := k2.trans n2
    have x3 := at1 k3
    cases hA : (Ex.mk k nm num ps b a l).atom with
    | true =>
      rw [hA] at hat
      refine ⟨s2, ?_⟩
      generalize (Ex.mk k nm num ps b a l).cells = cl at *
      simp [Tryz.f4, hpe, hs0, callF_of Tryz.func12 rfl, hlv, load_ag inf27 ag27, sz27, x0.all, x1.all, callF_of Tryz.func16 rfl, g1, hm', callF_of Tryz.func14 rfl, hat, resOf_eq, pmapO]
    | false =>
      rw [hA] at hat
      cases hV : (fitsB (Ex.mk k nm num ps b a l) && nrm F (Ex.mk k nm num ps b a l)) with
      | false =>
        rw [hV] at n1
        refine ⟨s3, ?_⟩
        generalize (Ex.mk k nm num ps b a l).cells = cl at *
        simp [Tryz.f4, hpe, hs0, callF_of Tryz.func12 rfl, hlv, load_ag inf27 ag27, sz27, x0.all, x1.all, x2.all, callF_of Tryz.func16 rfl, g1, hm', callF_of Tryz.func14 rfl, hat, callF_of Tryz.func15 rfl, n1, resOf_eq, pmapO]
      | true =>
        rw [hV] at n1
        rw [Bool.and_eq_true] at hV
        obtain ⟨v1, v2⟩ := hV
        simp only [fitsB, Bool.and_eq_true, decide_eq_true_eq] at v1
        have hAk : atomK k = false := hA
        simp only [nrm, hAk, Bool.false_or, Bool.and_eq_true] at v2
        obtain ⟨-, va, vb, vl⟩ := v2
        have va := nrmA_iff.1 va
        have vb := nrmK_iff.1 vb
        have vl := nrmK_iff.1 vl
        have fitK : ∀ y : Ex, y.depth ≤ max b.depth (max a.depth l.depth) → y.size ≤ b.size + a.size + l.size → fitsB y = true := by
          intro y h1 h2
          simp only [fitsB, Bool.and_eq_true, decide_eq_true_eq]
          omega
        rw [hsz] at hN hms
        have gen : ∀ s : St, Kp [] [] s0 s → True := fun _ _ => trivial
        generalize (Ex.mk k nm num ps b a l).cells = cl at *
        simp [Tryz.f4, hpe, hs0, callF_of Tryz.func12 rfl, hlv, load_ag inf27 ag27, sz27, x0.all, x1.all, x2.all, callF_of Tryz.func16 rfl, g1, hm', callF_of Tryz.func14 rfl, hat, callF_of Tryz.func15 rfl, n1, evC_loop]
        generalize hL : loopC _ _ _ _ = Lo
        obtain ⟨tA, sA, rfl, pA, kA⟩ := loop_use hL 0 a.list.length
          (fun i t s => tget t 1 = .p p 0 ∧ tget t 3 = .i .i64 (i : Int) ∧ Kp [] [] s0 s) (fun t s => tget t 1 = .p p 0 ∧ Kp [] [] s0 s) (by rw [← ExL.len_eq]; have := a.len_le; omega)
          ⟨by simp, by simp, k3⟩
          (by
            rintro i t s hi ⟨i1, i3, iK⟩
            clear hL
            have hx := at1 iK
            have hil : i < a.len := by rw [ExL.len_eq]; exact hi
            have hln := a.len_le
            have e5 : (i : Int) < (a.len : Int) := by omega
            have e7 : wr .i64 ((i : Int) + 1) = ((i + 1 : Nat) : Int) := by rw [wr_in (by omega) (by omega)]; rfl
            have vl := fun st : St => len_sl (st := st) Tryz.underlying24 (a.slice_len 7) (a.slice_text 7)
            obtain ⟨r, r1, r2⟩ := part_at pa (show 0 + 7 = 7 from rfl) hi
            have ix := index_rs (P := Tryz.prog) Tryz.underlying24 inf27 sz27 a.flat a.len i hil
            rw [← ExL.slice_rs hil, r1, List.eq_nil_of_length_eq_zero r2, List.nil_append] at ix
            have hmem := List.getElem_mem hi
            have hsz' := ExL.size_mem hmem
            have hdp' := ExL.depth_mem hmem
            obtain ⟨w1, w2⟩ := va i hi
            rw [Nat.zero_add] at w1
            obtain ⟨wk, -⟩ := ExL.wf_list wa _ hmem
            generalize a.list[i].2 = y at *
            have hfy := fitK y (by omega) (by omega)
            obtain ⟨s4, h1, h2⟩ := norm_call (F := F) (st := s) y wk (by omega) (N + 1) (by omega)
            rw [hfy, w2] at h1
            have h1 : (selfW Tryz.prog (Wr F) (N + 1)).call 15 [.ag y.cells] s = some (.b true, s4) := h1
            have hx4 := at1 (iK.trans h2)
            have hat4 := atom_call (F := F) (st := s4) y N
            obtain ⟨s5, hs5⟩ : ∃ s5, s4.newCe y.cells = s5 := ⟨_, rfl⟩
            have k5 : Kp [] [] s4 s5 := by rw [← hs5]; exact .newCe _ _ _
            rw [hs5] at hat4
            by_cases hk4 : k = 4
            · have hy : y.atom = true := by
                rcases w1 with h | h
                · rw [hk4] at h; simp [firstK, strictK] at h; omega
                · exact h
              rw [hy] at hat4
              simp [i1, i3, e5, e7, off27_0, off27_5, load_p inf3 ag3, load_p inf24 ag24, hx.a, hx.kd, hx4.a, vl, hk4, ix, load_rpAg inf27 ag27, sz27, take_cells, callF_of Tryz.func15 rfl, h1, callF_of Tryz.func14 rfl, hat4]
              exact ⟨_, _, ⟨rfl, rfl⟩, by simp [i1], by simp, (iK.trans h2).trans k5⟩
            · by_cases hk6 : k = 6
              · by_cases hi0 : 0 < i
                · have hy : y.atom = true := by
                    rcases w1 with h | h
                    · rw [hk6] at h; simp [firstK, strictK] at h; omega
                    · exact h
                  rw [hy] at hat4
                  simp [i1, i3, e5, e7, off27_0, off27_5, load_p inf3 ag3, load_p inf24 ag24, hx.a, hx.kd, hx4.a, vl, hk6, hi0, ix, load_rpAg inf27 ag27, sz27, take_cells, callF_of Tryz.func15 rfl, h1, callF_of Tryz.func14 rfl, hat4]
                  exact ⟨_, _, ⟨rfl, rfl⟩, by simp [i1], by simp, (iK.trans h2).trans k5⟩
                · simp [i1, i3, e5, e7, off27_0, off27_5, load_p inf3 ag3, load_p inf24 ag24, hx.a, hx.kd, hx4.a, vl, hk6, hi0, ix, load_rpAg inf27 ag27, sz27, take_cells, callF_of Tryz.func15 rfl, h1]
                  exact ⟨_, _, ⟨rfl, rfl⟩, by simp [i1], by simp, iK.trans h2⟩
              · simp [i1, i3, e5, e7, off27_0, off27_5, load_p inf3 ag3, load_p inf24 ag24, hx.a, hx.kd, hx4.a, vl, hk4, hk6, ix, load_rpAg inf27 ag27, sz27, take_cells, callF_of Tryz.func15 rfl, h1]
                exact ⟨_, _, ⟨rfl, rfl⟩, by simp [i1], by simp, iK.trans h2⟩)
          (by
            rintro t s ⟨i1, i3, iK⟩
            clear hL
            have hx := at1 iK
            simp [i1, i3, off27_5, load_p inf24 ag24, hx.a, len_sl Tryz.underlying24 (a.slice_len 7) (a.slice_text 7), ExL.len_eq]
            exact ⟨_, _, ⟨rfl, rfl⟩, by simp [i1], iK⟩)
        clear hL
        simp [evC_loop]
        generalize hL : loopC _ _ _ _ = Lo
        obtain ⟨tB, sB, rfl, pB, kB⟩ := loop_use hL 2 b.list.length
          (fun i t s => tget t 1 = .p p 0 ∧ tget t 5 = .i .i64 (i : Int) ∧ Kp [] [] s0 s) (fun t s => tget t 1 = .p p 0 ∧ Kp [] [] s0 s) (by rw [← ExL.len_eq]; have := b.len_le; omega)
          ⟨by simp [pA], by simp, kA⟩
          (by
            rintro i t s hi ⟨i1, i3, iK⟩
            clear hL
            have hx := at1 iK
            have hil : i < b.len := by rw [ExL.len_eq]; exact hi
            have hln := b.len_le
            have e5 : (i : Int) < (b.len : Int) := by omega
            have e7 : wr .i64 ((i : Int) + 1) = ((i + 1 : Nat) : Int) := by rw [wr_in (by omega) (by omega)]; rfl
            have vl2 := fun st : St => len_sl (st := st) Tryz.underlying23 (b.slice_len 8) (b.slice_text 8)
            obtain ⟨r, r1, r2⟩ := part_at pb (show 1 + 7 = 8 from rfl) hi
            have ix := index_rs (P := Tryz.prog) Tryz.underlying23 inf41 sz41 b.flat b.len i hil
            rw [← ExL.slice_rs hil, r1] at ix
            have hmem := List.getElem_mem hi
            have hsz' := ExL.size_mem hmem
            have hdp' := ExL.depth_mem hmem
            have w2 := vb i hi
            obtain ⟨wk, -⟩ := ExL.wf_list wb _ hmem
            have hd : (b.list[i].1 ++ (b.list[i].2.cells ++ r)).drop 1 = b.list[i].2.cells ++ r := by rw [List.drop_append, r2]; simp [r2, List.drop_eq_nil_of_le]
            generalize b.list[i].2 = y at *
            have hfy := fitK y (by omega) (by omega)
            obtain ⟨s4, h1, h2⟩ := norm_call (F := F) (st := s) y wk (by omega) (N + 1) (by omega)
            rw [hfy, w2] at h1
            have h1 : (selfW Tryz.prog (Wr F) (N + 1)).call 15 [.ag y.cells] s = some (.b true, s4) := h1
            simp [i1, i3, e5, e7, off27_4, load_p inf23 ag23, hx.b, vl2, ix, off41_1, hd, load_rpAg inf27 ag27, sz27, take_cells, callF_of Tryz.func15 rfl, h1]
            exact ⟨_, _, ⟨rfl, rfl⟩, by simp [i1], by simp, iK.trans h2⟩)
          (by
            rintro t s ⟨i1, i3, iK⟩
            clear hL
            have hx := at1 iK
            simp [i1, i3, off27_4, load_p inf23 ag23, hx.b, len_sl Tryz.underlying23 (b.slice_len 8) (b.slice_text 8), ExL.len_eq]
            exact ⟨_, _, ⟨rfl, rfl⟩, by simp [i1], iK⟩)
        clear hL
        simp [evC_loop]
        generalize hL : loopC _ _ _ _ = Lo
        obtain ⟨tC, sC, rfl, pC, kC⟩ := loop_use hL 4 l.list.length
          (fun i t s => tget t 1 = .p p 0 ∧ tget t 6 = .i .i64 (i : Int) ∧ Kp [] [] s0 s) (fun t s => tget t 1 = .p p 0 ∧ Kp [] [] s0 s) (by rw [← ExL.len_eq]; have := l.len_le; omega)
          ⟨by simp [pB], by simp, kB⟩
          (by
            rintro i t s hi ⟨i1, i3, iK⟩
            clear hL
            have hx := at1 iK
            have hil : i < l.len := by rw [ExL.len_eq]; exact hi
            have hln := l.len_le
            have e5 : (i : Int) < (l.len : Int) := by omega
            have e7 : wr .i64 ((i : Int) + 1) = ((i + 1 : Nat) : Int) := by rw [wr_in (by omega) (by omega)]; rfl
            have vl2 := fun st : St => len_sl (st := st) Tryz.underlying25 (l.slice_len 11) (l.slice_text 11)
            obtain ⟨r, r1, r2⟩ := part_at pl (show 4 + 7 = 11 from rfl) hi
            have ix := index_rs (P := Tryz.prog) Tryz.underlying25 inf46 sz46 l.flat l.len i hil
            rw [← ExL.slice_rs hil, r1] at ix
            have hmem := List.getElem_mem hi
            have hsz' := ExL.size_mem hmem
            have hdp' := ExL.depth_mem hmem
            have w2 := vl i hi
            obtain ⟨wk, -⟩ := ExL.wf_list wl _ hmem
            have hd : (l.list[i].1 ++ (l.list[i].2.cells ++ r)).drop 4 = l.list[i].2.cells ++ r := by rw [List.drop_append, r2]; simp [r2, List.drop_eq_nil_of_le]
            generalize l.list[i].2 = y at *
            have hfy := fitK y (by omega) (by omega)
            obtain ⟨s4, h1, h2⟩ := norm_call (F := F) (st := s) y wk (by omega) (N + 1) (by omega)
            rw [hfy, w2] at h1
            have h1 : (selfW Tryz.prog (Wr F) (N + 1)).call 15 [.ag y.cells] s = some (.b true, s4) := h1
            simp [i1, i3, e5, e7, off27_6, load_p inf25 ag25, hx.l, vl2, ix, off46_4, hd, load_rpAg inf27 ag27, sz27, take_cells, callF_of Tryz.func15 rfl, h1]
            exact ⟨_, _, ⟨rfl, rfl⟩, by simp [i1], by simp, iK.trans h2⟩)
          (by
            rintro t s ⟨i1, i3, iK⟩
            clear hL
            have hx := at1 iK
            simp [i1, i3, off27_6, load_p inf25 ag25, hx.l, len_sl Tryz.underlying25 (l.slice_len 11) (l.slice_text 11), ExL.len_eq]
            exact ⟨_, _, ⟨rfl, rfl⟩, by simp [i1], iK⟩)
        clear hL
        refine ⟨sC, ?_⟩
        simp [resOf_eq, pmapO]
end
end Go.Proofs.YtfhhbndndhnpjaaGreatDoor
