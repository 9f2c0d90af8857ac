/-
  The run of WorldChunks, of any chunks: it comes to true.
-/
import Derived.Test.YtnklglbnblbbeaaSym3
namespace Go.Proofs.Ytnklglbnblbbeaa
open Go.Ev
set_option maxRecDepth 100000

theorem withTrue_ne {S : Self} {g f : FuncId} {xs : List AV} {st : St} (h : f ≠ g) : (withTrue g S).call f xs st = S.call f xs st := by
  show @Bool.rec (fun _ => Res) (S.call f xs st) _ (Nat.beq f g) = _
  rw [nbeq, decide_eq_false h]
theorem withTrue_self {S : Self} {g : FuncId} {st : St} : (withTrue g S).call g [] st = some (.b true, st) := by
  show @Bool.rec (fun _ => Res) (S.call g [] st) (some (.b true, st)) (Nat.beq g g) = _
  rw [nbeq, decide_eq_true rfl]

/-- Chunks: what they are, and their bytes. -/
def Good (l : List (AV × List AV)) : Prop := ∀ p ∈ l, IsSl p.1 p.2 ∧ ∀ c ∈ p.2, ∃ b, c = .i .u8 b
def tot (l : List (AV × List AV)) (i : Nat) : List AV := ((l.take i).map (·.2)).flatten

theorem tot_succ {l : List (AV × List AV)} {i : Nat} (h : i < l.length) : tot l (i + 1) = tot l i ++ l[i].2 := by
  have h1 : l.take (i + 1) = l.take i ++ [l[i]] := (List.take_append_getElem h).symm
  simp only [tot, h1, List.map_append, List.flatten_append, List.map_cons, List.map_nil, List.flatten_cons, List.flatten_nil, List.append_nil]

theorem bytes_tot {l : List (AV × List AV)} (h : Good l) (i : Nat) : ∀ c ∈ tot l i, ∃ b, c = .i .u8 b := by
  intro c hc
  unfold tot at hc
  simp only [List.mem_flatten, List.mem_map] at hc
  obtain ⟨_, ⟨p, hp, rfl⟩, hc⟩ := hc
  exact (h p (List.mem_of_mem_take hp)).2 c hc

/-- A world that was fed such bytes, of which some were read; and the bytes themselves. -/
def Inv1 (s : St) (w ch : Nat) (a : AV) (cs : List AV) (k : Nat) : Prop := ∃ u, AllS s w ch a cs ∧ u ≤ cs.length ∧ Wd s w ch cs.length u false .sn (cs.drop u) ∧ cs.length ≤ k

section
variable {l : List (AV × List AV)} {v : AV}
theorem chunks_body (hg : Good l) (hv : IsSl v (l.map (·.1))) (n : Nat) (hn : 900000 ≤ n) :
    ∃ st', endF Try.prog Try.f3.results.toList (evC (Try.f3.body.getD .skip) ⟨Try.prog, withTrue 7 (self Try.prog (n + 2)), false, Try.f3.ntmps, n⟩ (tmpsOf [v] 0 .lf) st0) = some (.b true, st') := by
  have hlen : lenOf v = some l.length := by simpa using hv.len
  by_cases h200 : 200 < l.length
  · have e1 : (200 : Int) < (l.length : Int) := by omega
    refine ⟨st0, ?_⟩
    simp [Try.f3, callF_of Try.func7 rfl, withTrue_self, len_sl Try.underlying22 hlen hv.text, e1, resOf_eq, pmapO]
  · obtain ⟨st1, w, ch, hN, hW⟩ := new_call st0 (n + 1)
    have e1 : ¬ (200 : Int) < (l.length : Int) := by omega
    simp [Try.f3, callF_of Try.func7 rfl, callF_of Try.func8 rfl, withTrue_self, withTrue_ne, hN, len_sl Try.underlying22 hlen hv.text, e1, evC_loop]
    generalize hL : loopC _ _ _ _ = L
    have step : _ := loop_ret hL 0 l.length
      (fun i t s => tget t 0 = v ∧ tget t 3 = .p w 0 ∧ tget t 5 = .i .i64 (i : Int) ∧ Inv1 s w ch (tget t 4) (tot l i) (4000 * i))
      (fun t s => tget t 3 = .p w 0 ∧ Inv1 s w ch (tget t 4) (tot l l.length) (4000 * l.length))
      (fun t s => tget t 2 = .b true) (by omega)
      ⟨by simp, by simp, by simp, 0, .inl ⟨by simp, rfl⟩, by simp [tot], by simpa [tot] using hW, by simp [tot]⟩
      (by
        rintro i t s hi ⟨i0, i3, i5, u, iA, iu, iW, ib⟩
        clear hL
        generalize i4 : tget t 4 = a at iA
        have hgi := hg l[i] (List.getElem_mem hi)
        have hvr : v = .rs (l.map (·.1)) l.length 1 := by
          rcases hv with ⟨rfl, h0⟩ | hv
          · rw [List.map_eq_nil_iff.1 h0] at hi; cases hi
          · simpa using hv
        have hdr : (l.map (·.1)).drop i = l[i].1 :: (l.map (·.1)).drop (i + 1) := by
          rw [List.drop_eq_getElem_cons (by simpa using hi)]; simp
        have e5 : (i : Int) < (l.length : Int) := by omega
        have e6 : wr .i64 ((i : Int) + 1) = ((i + 1 : Nat) : Int) := by rw [wr_in (by omega) (by omega)]; rfl
        have ix := index_rs (P := Try.prog) Try.underlying22 inf26 sz26 (l.map (·.1)) l.length i hi
        rw [Nat.mul_one, hdr] at ix
        have iL := fun st : St => len_sl (st := st) Try.underlying26 hgi.1.len hgi.1.text
        by_cases h4 : 4000 < l[i].2.length
        · right
          have e7 : (4000 : Int) < (l[i].2.length : Int) := by omega
          simp [i0, i5, hvr, len_sl Try.underlying22 (show lenOf (.rs (l.map (·.1)) l.length 1) = some l.length from rfl) rfl, e5, ix, load_rp inf26 ag26, iL, e7]
        · left
          have e7 : ¬ (4000 : Int) < (l[i].2.length : Int) := by omega
          obtain ⟨s1, k1, k2, k3⟩ := feed_call iW hgi.1 (by omega) (by simp; omega) hgi.2 n (by omega)
          obtain ⟨a', s2, m1, m2, m3⟩ := append_all (iA.keep iW k3) k2 hgi.1 hgi.2 (by omega)
          have ht := tot_succ hi
          have hld : (tot l i).length + l[i].2.length = (tot l (i + 1)).length := by rw [ht, List.length_append]
          have hdd : (tot l i).drop u ++ l[i].2 = (tot l (i + 1)).drop u := by rw [ht, List.drop_append_of_le_length iu]
          rw [← ht] at m2
          rw [hld, hdd] at m3
          have ib' : (tot l (i + 1)).length ≤ 4000 * (i + 1) := by omega
          have iu' : u ≤ (tot l (i + 1)).length := by omega
          have aL := fun st : St => len_sl (st := st) Try.underlying26 m2.len m2.text
          have rm : ∀ c : Bool, Go.Ev.binOp Try.prog 3 c .rem (.i .i64 (i : Int)) (.i .i64 2) = some (.i .i64 ((i : Int).tmod 2)) := fun c => bin_rem (by decide)
          by_cases hp : (i : Int).tmod 2 = 1
          · by_cases hq : u < (tot l (i + 1)).length
            · have e8 : (u : Int) < ((tot l (i + 1)).length : Int) := by omega
              obtain ⟨b, hb⟩ := bytes_tot hg (i + 1) (tot l (i + 1))[u] (List.getElem_mem hq)
              have hcons : (tot l (i + 1)).drop u = .i .u8 b :: (tot l (i + 1)).drop (u + 1) := by rw [← hb]; exact List.drop_eq_getElem_cons hq
              rw [hcons] at m3
              obtain ⟨s3, g1, g2, g3⟩ := get_some _ m3 (by omega) n
              have m4 := m2.keep m3 g3
              obtain ⟨r, g, al, ha, hce, -⟩ := m4.resolve_left (by rintro ⟨-, h0⟩; rw [h0] at hq; cases hq)
              have e9 : wr .i64 (u : Int) = (u : Int) := wr_in (by omega) (by omega)
              have ea : indexAddr Try.prog 26 a' (.i .i64 (u : Int)) = some (.p r u) := by
                rw [ha, index_sl Try.underlying26 inf5 sz5 _ _ _ _ _ hq]; simp
              have er : rd s3 r u 1 = some [.i .u8 b] := by rw [rd_of hce, takeN_get _ _ hq, hb]
              simp [i0, i3, i5, i4, hvr, len_sl Try.underlying22 (show lenOf (.rs (l.map (·.1)) l.length 1) = some l.length from rfl) rfl, e5, ix, load_rp inf26 ag26, iL, e7, callF_of Try.func9 rfl, withTrue_ne, k1, m1, rm, hp, aL,
                callF_of Try.func10 rfl, used_call m3, e8, callF_of Try.func11 rfl, g1, used_call g2, e9, ea, load_p inf5 ag5, er, e6]
              refine ⟨_, _, ⟨rfl, rfl⟩, by simp [i0, hvr], by simp [i3], by simp, u + 1, by simpa [i4] using m4, by omega, g2, by omega⟩
            · have e8 : ¬ (u : Int) < ((tot l (i + 1)).length : Int) := by omega
              simp [i0, i3, i5, i4, hvr, len_sl Try.underlying22 (show lenOf (.rs (l.map (·.1)) l.length 1) = some l.length from rfl) rfl, e5, ix, load_rp inf26 ag26, iL, e7, callF_of Try.func9 rfl, withTrue_ne, k1, m1, rm, hp, aL,
                callF_of Try.func10 rfl, used_call m3, e8, e6]
              refine ⟨_, _, ⟨rfl, rfl⟩, by simp [i0, hvr], by simp [i3], by simp, u, by simpa [i4] using m2, by omega, m3, by omega⟩
          · simp [i0, i3, i5, i4, hvr, len_sl Try.underlying22 (show lenOf (.rs (l.map (·.1)) l.length 1) = some l.length from rfl) rfl, e5, ix, load_rp inf26 ag26, iL, e7, callF_of Try.func9 rfl, withTrue_ne, k1, m1, rm, hp, aL, e6]
            refine ⟨_, _, ⟨rfl, rfl⟩, by simp [i0, hvr], by simp [i3], by simp, u, by simpa [i4] using m2, by omega, m3, by omega⟩)
      (by
        rintro t s ⟨i0, i3, i5, u, iA, iu, iW, ib⟩
        clear hL
        simp [i0, i5, len_sl Try.underlying22 hlen hv.text]
        refine ⟨_, _, ⟨rfl, rfl⟩, by simp [i3], u, by simpa using iA, iu, iW, ib⟩)
    clear hL
    rcases step with ⟨t2, s2, rfl, q3, u, qA, qu, qW, qb⟩ | ⟨t2, s2, rfl, q2⟩
    · generalize q4 : tget t2 4 = a at qA
      have qB := bytes_tot hg l.length
      generalize tot l l.length = cs at qA qu qW qb qB
      have aL := fun st : St => len_sl (st := st) Try.underlying26 qA.len qA.text
      obtain ⟨s3, k1, k2, k3⟩ := end_call qW n
      have kA := qA.keep qW k3
      simp [q3, q4, callF_of Try.func12 rfl, callF_of Try.func10 rfl, withTrue_ne, k1, used_call k2, evC_loop]
      generalize hL : loopC _ _ _ _ = L
      have m5 : cs.length ≤ 800000 := by omega
      obtain ⟨t4, s4, rfl, p3, pA, pW⟩ := loop_use hL 2 (cs.length - u)
        (fun j t s => tget t 3 = .p w 0 ∧ tget t 9 = .i .i64 ((u + j : Nat) : Int) ∧ tget t 4 = a ∧ AllS s w ch a cs ∧ Wd s w ch cs.length (u + j) true .sn (cs.drop (u + j)))
        (fun t s => tget t 3 = .p w 0 ∧ (tget t 4 = a ∧ AllS s w ch a cs) ∧ Wd s w ch cs.length cs.length true .sn []) (by omega)
        ⟨by simp [q3], by simp, by simp [q4], kA, k2⟩
        (by
          rintro j t s hj ⟨i3, i9, i4, iA, iW⟩
          clear hL
          have hq : u + j < cs.length := by omega
          obtain ⟨c, hc⟩ : ∃ c, cs[u + j] = c := ⟨_, rfl⟩
          obtain ⟨b, rfl⟩ := qB _ (hc ▸ List.getElem_mem hq)
          have hcons : cs.drop (u + j) = .i .u8 b :: cs.drop (u + (j + 1)) := by rw [← hc]; exact List.drop_eq_getElem_cons hq
          rw [hcons] at iW
          obtain ⟨s5, g1, g2, g3⟩ := get_some _ iW (by omega) n
          have m4 := iA.keep iW g3
          obtain ⟨r, g, al, ha, hce, -⟩ := m4.resolve_left (by rintro ⟨-, h0⟩; rw [h0] at hq; cases hq)
          have ea : indexAddr Try.prog 26 a (.i .i64 ((u + j : Nat) : Int)) = some (.p r (u + j)) := by
            rw [ha, index_sl Try.underlying26 inf5 sz5 _ _ _ _ _ hq]; simp
          have er : rd s5 r (u + j) 1 = some [.i .u8 b] := by rw [rd_of hce, takeN_get _ _ hq, hc]
          have e6 : wr .i64 (((u + j : Nat) : Int) + 1) = ((u + (j + 1) : Nat) : Int) := by rw [wr_in (by omega) (by omega)]; rfl
          have e5 : ((u + j : Nat) : Int) < (cs.length : Int) := by omega
          generalize hk : u + j = k at *
          simp [i3, i4, i9, aL, e5, callF_of Try.func11 rfl, withTrue_ne, g1, ea, load_p inf5 ag5, er, e6]
          refine ⟨_, _, ⟨rfl, rfl⟩, by simp [i3], by simp, by simp [i4], m4, ?_⟩
          rw [show u + (j + 1) = k + 1 by omega] at g2 ⊢
          exact g2)
        (by
          rintro t s ⟨i3, i9, i4, iA, iW⟩
          clear hL
          rw [show u + (cs.length - u) = cs.length by omega] at iW i9
          simp [i9, i4, aL]
          refine ⟨_, _, ⟨rfl, rfl⟩, by simp [i3], ⟨by simp [i4], iA⟩, by simpa using iW⟩)
      clear hL
      simp [evC_loop]
      generalize hL : loopC _ _ _ _ = L
      obtain ⟨t6, s6, rfl, r3, rA, rW⟩ := loop_use hL 4 3
        (fun j t s => tget t 3 = .p w 0 ∧ tget t 13 = .i .i64 (j : Int) ∧ (tget t 4 = a ∧ AllS s w ch a cs) ∧ Wd s w ch cs.length cs.length true .sn [])
        (fun t s => tget t 3 = .p w 0 ∧ (tget t 4 = a ∧ AllS s w ch a cs) ∧ Wd s w ch cs.length cs.length true .sn []) (by omega)
        ⟨by simp [p3], by simp, by simpa using pA, pW⟩
        (by
          rintro j t s hj ⟨i3, i13, iA, iW⟩
          clear hL
          have e6 : wr .i64 ((j : Int) + 1) = ((j + 1 : Nat) : Int) := by rw [wr_in (by omega) (by omega)]; rfl
          have e5 : (j : Int) < 3 := by omega
          simp [i3, i13, e5, e6, callF_of Try.func11 rfl, withTrue_ne, get_none iW]
          refine ⟨_, _, ⟨rfl, rfl⟩, by simp [i3], by simp, by simpa using iA, iW⟩)
        (by
          rintro t s ⟨i3, i13, iA, iW⟩
          clear hL
          simp [i13]
          refine ⟨_, _, ⟨rfl, rfl⟩, by simp [i3], by simpa using iA, iW⟩)
      refine ⟨s6, ?_⟩
      simp [r3, rA.1, aL, callF_of Try.func10 rfl, callF_of Try.func13 rfl, withTrue_ne, used_call rW, left_call rW, resOf_eq, pmapO]
    · refine ⟨s2, ?_⟩
      simp [resOf_eq, pmapO, q2]
end
end Go.Proofs.Ytnklglbnblbbeaa
