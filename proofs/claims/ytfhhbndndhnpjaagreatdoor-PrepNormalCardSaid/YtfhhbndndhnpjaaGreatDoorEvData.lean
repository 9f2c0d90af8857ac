/- Arguments: data that are there ahead of the call, told by value. -/
import Derived.Test.YtfhhbndndhnpjaaGreatDoorEvSym
import Derived.DataReads
import GoSem.ClaimChange
namespace Go.Ev
noncomputable section

variable {P : Program} {w : World} {top : Nat}

/-- The memory ahead of the call: nothing of it changes. -/
def inEnv (H : Array Obj) (top : Nat) : Env := ⟨fun b => H[b]?, fun _ => none, top⟩

theorem inEnv_rel (H : Array Obj) (top : Nat) : Rel (inEnv H top) H st0 := by
  have hal : ∀ r row, st0.alive r = some row → False := fun r row h => by have := Rel.alive_get h; rw [st0_get] at this; cases this
  have hlv : ∀ g : Nat, st0.live.get g = none := fun g => Tr.get_lf g
  refine ⟨fun _ _ h => h, fun _ _ _ => rfl, fun r _ => st0_get r, fun g _ => hlv g, fun g al x h => ?_, fun r row h => (hal r row h).elim, fun r row B h => (hal r row h).elim, fun r r' row row' B B' h => (hal r row h).elim, fun g al h => ?_⟩
  · rw [hlv] at h; cases h
  · rw [hlv] at h; cases h

theorem inEnv_cell {a : Addr} {v : Value} (h : w.cell? a = some v) : a.spot = none ∧ (inEnv w.heap top).cell a.block a.off = some v := by
  unfold World.cell? at h
  unfold Env.cell inEnv
  simp only
  split at h
  · rename_i c t f hb
    rw [hb]
    simp only
    split at h
    · cases h
    · rename_i hs
      exact ⟨by simpa using hs, h⟩
  · cases h

theorem add_block (a : Addr) (n : Nat) : (a.add n).block = a.block := by unfold Addr.add; split <;> rfl
theorem add_off (a : Addr) (n : Nat) : (a.add n).off = a.off + n := by unfold Addr.add; split <;> simp [*]
theorem cells_spec {base : Nat} {a : Addr} {n : Nat} {cs : List Value} (h : w.cells? base a n = some cs) : cs.length = n ∧ (0 < n → a.spot = none) ∧ ∀ j v, cs[j]? = some v → (inEnv w.heap top).cell a.block (a.off + j) = some v := by
  unfold World.cells? at h
  split at h
  · have h1 := mapM_some_length h
    have key : ∀ j v, cs[j]? = some v → w.cell? (a.add j) = some v := by
      intro j v hj
      have hj' : j < n := by
        have := (List.getElem?_eq_some_iff.1 hj).1
        simp at h1; omega
      have h2 := mapM_some_get h j j (by simp [hj'])
      rw [hj] at h2
      exact h2
    refine ⟨by simpa using h1, fun hn => ?_, fun j v hj => ?_⟩
    · have hl : 0 < cs.length := by simp at h1; omega
      have := (inEnv_cell (top := top) (key 0 cs[0] (by simp [hl]))).1
      exact this
    · have := (inEnv_cell (top := top) (key j v hj)).2
      rw [add_block, add_off] at this
      exact this
  · cases h

/-- A struct's fields lie one behind the other. -/
def Tiles (P : Program) : List Field → Nat → Nat → Prop
  | [], o, n => o = n
  | f :: fs, o, n => f.offset = o ∧ Tiles P fs (o + szOf P f.type) n

def tilesB (P : Program) : List Field → Nat → Nat → Bool
  | [], o, n => Nat.beq o n
  | f :: fs, o, n => Nat.beq f.offset o && tilesB P fs (o + szOf P f.type) n
theorem tilesB_spec : ∀ {fs : List Field} {o n : Nat}, tilesB P fs o n = true → Tiles P fs o n
  | [], o, n, h => Nat.eq_of_beq_eq_true h
  | f :: fs, o, n, h => by
    simp only [tilesB, Bool.and_eq_true] at h
    exact ⟨Nat.eq_of_beq_eq_true h.1, tilesB_spec h.2⟩

/-- What such cells are, by their type. -/
def Typed (P : Program) : Nat → TypeId → List AV → Prop
  | 0, _, _ => False
  | k + 1, t, l => match P.underlying t with
    | some .bool => ∃ b, l = [.b b]
    | some (.int q) => ∃ n, l = [.i q n] ∧ q.min ≤ n ∧ n ≤ q.max
    | some .string => ∃ bs : List Nat, l = [.s bs] ∧ (∀ b ∈ bs, b < 256) ∧ bs.length ≤ maxLen
    | some (.slice e) => szOf P e = 0 ∨ l = [.sn] ∨ ∃ els : List (List AV), l = [.rs els.flatten els.length (szOf P e)] ∧ els.length ≤ maxLen ∧ ∀ x ∈ els, x.length = szOf P e ∧ Typed P k e x
    | some (.struct fs) => tilesB P fs.toList 0 (szOf P t) = true → ∃ parts : List (List AV), l = parts.flatten ∧ parts.length = fs.toList.length ∧ ∀ (i : Nat) (f : Field) (p : List AV), fs.toList[i]? = some f → parts[i]? = some p → p.length = szOf P f.type ∧ Typed P k f.type p
    | _ => True

theorem bads_conc {E : Env} : ∀ cs : List Value, ConcL E (cs.map fun _ => .bad) cs
  | [] => .nil
  | v :: cs => .cons _ _ _ _ (.bad v) (bads_conc cs)

theorem sz_cells (t : TypeId) : szOf P t = P.cellsOf t := by
  unfold szOf Program.cellsOf
  cases P.info? t <;> rfl

section
variable {H : Type} {enc : TypeId × Value → H} {base : Nat} {spare : Nat → Bool} {held : Bool}

theorem struct_typed {k : Nat} {cs : List Value} (ih : ∀ t cs d ps, DataW.trod enc P w base spare held k t cs = some (d, ps) → ∃ l, ConcL (inEnv w.heap top) l cs ∧ Typed P k t l) :
    ∀ (fs : List Field) (o n : Nat) (xs : List (DataW H × List MemPlace)), Tiles P fs o n → cs.length = n → (fs.mapM fun f => DataW.trod enc P w base spare held k f.type ((cs.drop f.offset).take (P.cellsOf f.type))) = some xs →
      ∃ parts : List (List AV), ConcL (inEnv w.heap top) parts.flatten (cs.drop o) ∧ parts.length = fs.length ∧ ∀ (i : Nat) (f : Field) (p : List AV), fs[i]? = some f → parts[i]? = some p → p.length = szOf P f.type ∧ Typed P k f.type p := by
  intro fs
  induction fs with
  | nil =>
    intro o n xs ht hc h
    have : o = n := ht
    subst this
    refine ⟨[], ?_, rfl, fun i f p h => by simp at h⟩
    rw [List.drop_eq_nil_of_le (by omega)]
    exact .nil
  | cons f fs ihf =>
    intro o n xs ht hc h
    obtain ⟨h1, h2⟩ := ht
    rw [List.mapM_cons] at h
    cases ha : DataW.trod enc P w base spare held k f.type ((cs.drop f.offset).take (P.cellsOf f.type)) with
    | none => rw [ha] at h; cases h
    | some x =>
      rw [ha] at h
      cases hb : (fs.mapM fun f => DataW.trod enc P w base spare held k f.type ((cs.drop f.offset).take (P.cellsOf f.type))) with
      | none =>
        have h' : (do let rs ← (fs.mapM fun f => DataW.trod enc P w base spare held k f.type ((cs.drop f.offset).take (P.cellsOf f.type))); pure (x :: rs) : Option (List (DataW H × List MemPlace))) = some xs := h
        rw [hb] at h'; cases h'
      | some ys =>
        obtain ⟨l, c1, c2⟩ := ih _ _ x.1 x.2 ha
        obtain ⟨parts, p1, p2, p3⟩ := ihf _ n ys h2 hc hb
        rw [h1] at c1
        have hle : ∀ (gs : List Field) (a b : Nat), Tiles P gs a b → a ≤ b := by
          intro gs
          induction gs with
          | nil => intro a b h; exact Nat.le_of_eq h
          | cons g gs ihg => intro a b h; have := ihg _ _ h.2; omega
        have hn := hle _ _ _ h2
        have hl : l.length = szOf P f.type := by
          rw [c1.length, List.length_take, List.length_drop, ← sz_cells]
          omega
        refine ⟨l :: parts, ?_, by simp [p2], fun i g p hg hp => ?_⟩
        · have e : cs.drop o = (cs.drop o).take (P.cellsOf f.type) ++ cs.drop (o + szOf P f.type) := by
            rw [sz_cells, ← List.drop_drop, List.take_append_drop]
          rw [e, List.flatten_cons]
          exact c1.append p1
        · cases i with
          | zero =>
            simp at hg hp
            subst hg; subst hp
            exact ⟨hl, c2⟩
          | succ i => exact p3 i g p (by simpa using hg) (by simpa using hp)

theorem slice_typed {k : Nat} {e : TypeId} {a : Addr} (ih : ∀ t cs d ps, DataW.trod enc P w base spare held k t cs = some (d, ps) → ∃ l, ConcL (inEnv w.heap top) l cs ∧ Typed P k t l) :
    ∀ (xs : List (DataW H × List MemPlace)) (i0 : Nat), (∀ i x, xs[i]? = some x → (w.cells? base (a.add ((i0 + i) * P.cellsOf e)) (P.cellsOf e)).bind (DataW.trod enc P w base spare held k e) = some x) →
      ∃ (els : List (List AV)) (vs : List Value), els.length = xs.length ∧ (∀ x ∈ els, x.length = szOf P e ∧ Typed P k e x) ∧ ConcL (inEnv w.heap top) els.flatten vs ∧
        (i0 = 0 → 0 < xs.length → 0 < P.cellsOf e → a.spot = none) ∧ ∀ j v, vs[j]? = some v → (inEnv w.heap top).cell a.block (a.off + i0 * P.cellsOf e + j) = some v := by
  intro xs
  induction xs with
  | nil => intro i0 h; exact ⟨[], [], rfl, fun x hx => (by cases hx), .nil, fun _ h => (by cases h), fun j v hj => by simp at hj⟩
  | cons x xs ihx =>
    intro i0 h
    obtain ⟨els, vs, k1, k2, k3, -, k4⟩ := ihx (i0 + 1) (fun i y hy => by
      have := h (i + 1) y (by simpa using hy)
      rw [show i0 + (i + 1) = i0 + 1 + i by omega] at this
      exact this)
    have h0 := h 0 x rfl
    rw [Nat.add_zero] at h0
    cases hc : w.cells? base (a.add (i0 * P.cellsOf e)) (P.cellsOf e) with
    | none => rw [hc] at h0; cases h0
    | some cs =>
      rw [hc] at h0
      obtain ⟨c1, cs0, c2⟩ := cells_spec (top := top) hc
      obtain ⟨l, d1, d2⟩ := ih e cs x.1 x.2 h0
      have hl : l.length = szOf P e := by rw [d1.length, c1, sz_cells]
      refine ⟨l :: els, cs ++ vs, by simp [k1], ?_, ?_, fun h0 _ hz => ?_, fun j v hj => ?_⟩
      · intro y hy
        rcases List.mem_cons.1 hy with rfl | hy
        · exact ⟨hl, d2⟩
        · exact k2 y hy
      · rw [List.flatten_cons]; exact d1.append k3
      · have := cs0 hz
        rw [h0, Nat.zero_mul] at this
        exact this
      · by_cases hj' : j < cs.length
        · rw [List.getElem?_append_left hj'] at hj
          have := c2 j v hj
          rw [add_block, add_off] at this
          exact this
        · rw [List.getElem?_append_right (by omega)] at hj
          have g2 := k4 _ v hj
          rw [← g2]
          congr 1
          rw [Nat.add_mul, c1]
          omega

theorem typed_of : ∀ (k : Nat) (t : TypeId) (cs : List Value) (d : DataW H) (ps : List MemPlace),
    DataW.trod enc P w base spare held k t cs = some (d, ps) → ∃ l, ConcL (inEnv w.heap top) l cs ∧ Typed P k t l := by
  intro k
  induction k with
  | zero => intro t cs d ps h; cases h
  | succ k ih =>
    intro t cs d ps h
    cases hu : P.underlying t with
    | none => exact ⟨_, bads_conc cs, by simp only [Typed, hu]⟩
    | some u =>
      cases u with
      | bool =>
        rw [DataW.trod.eq_def] at h
        simp only [hu] at h
        split at h <;> first | (rename_i e; cases e; done) | skip
        all_goals first
          | (rename_i b hb; exact ⟨[.b b], .cons _ _ _ _ (.b b) .nil, by simp only [Typed, hu]; exact ⟨b, rfl⟩⟩)
          | (cases h; done)
          | skip
      | int q =>
        rw [DataW.trod.eq_def] at h
        simp only [hu] at h
        split at h <;> first | (rename_i e; cases e; done) | skip
        · rename_i e
          cases e
          split at h
          · rename_i hq
            obtain ⟨rfl, hw⟩ := hq
            simp only [Lit.wf, Bool.and_eq_true, decide_eq_true_eq] at hw
            exact ⟨[.i _ _], .cons _ _ _ _ (.i _ _) .nil, by simp only [Typed, hu]; exact ⟨_, rfl, hw⟩⟩
          · cases h
        · cases h
      | string =>
        rw [DataW.trod.eq_def] at h
        simp only [hu] at h
        split at h <;> first | (rename_i e; cases e; done) | skip
        · rename_i s e
          split at h
          · rename_i hs
            refine ⟨[.s (s.data.toList.map UInt8.toNat)], .cons _ _ _ _ (.s s) .nil, ?_⟩
            simp only [Typed, hu]
            refine ⟨_, rfl, fun b hb => ?_, by simpa using hs⟩
            obtain ⟨x, -, rfl⟩ := List.mem_map.1 hb
            exact x.toNat_lt
          · cases h
        · cases h
      | slice e =>
        rw [DataW.trod.eq_def] at h
        simp only [hu] at h
        split at h <;> first | (rename_i e; cases e; done) | skip
        · exact ⟨[.sn], .cons _ _ _ _ .sn .nil, by simp only [Typed, hu]; exact .inr (.inl trivial)⟩
        · rename_i e' a len cap he
          cases he
          split at h
          · rename_i hlen
            by_cases hz : szOf P e = 0
            · exact ⟨[.bad], .cons _ _ _ _ (.bad _) .nil, by simp only [Typed, hu]; exact .inl hz⟩
            · cases hm : (List.mapM (fun i => (w.cells? base (a.add (i * P.cellsOf e)) (P.cellsOf e)).bind (DataW.trod enc P w base spare held k e)) (List.range len)) with
              | none => rw [hm] at h; cases h
              | some xs =>
                have hxl := mapM_some_length hm
                rw [List.length_range] at hxl
                obtain ⟨els, vs, k1, k2, k3, k4, k5⟩ := slice_typed (top := top) (a := a) (e := e) ih xs 0 fun i x hx => by
                  have hi : i < len := by have := (List.getElem?_eq_some_iff.1 hx).1; omega
                  have := mapM_some_get hm i i (by simp [hi])
                  rw [hx] at this
                  rw [Nat.zero_add]; exact this
                rw [Nat.zero_mul, Nat.add_zero] at k5
                have hlx : els.length = len := by rw [k1, hxl]
                refine ⟨[.rs els.flatten els.length (szOf P e)], .cons _ _ _ _ ?_ .nil, by simp only [Typed, hu]; exact .inr (.inr ⟨els, rfl, by omega, k2⟩)⟩
                rw [hlx]
                by_cases h0 : len = 0
                · rw [h0]; exact .rs0 _ _ _ _
                · have hsp := k4 rfl (by omega) (by rw [← sz_cells]; omega)
                  obtain ⟨b, o, sp⟩ := a
                  have : sp = none := hsp
                  subst this
                  exact .rs _ _ _ _ b o vs hlen.2.1 k5 k3
          · cases h
        · cases h
      | struct fs =>
        by_cases htl : tilesB P fs.toList 0 (szOf P t) = true
        case neg => exact ⟨_, bads_conc cs, by simp only [Typed, hu]; exact fun hh => absurd hh htl⟩
        rw [DataW.trod.eq_def] at h
        simp only [hu] at h
        split at h
        · rename_i hc
          cases hm : (fs.toList.mapM fun f => DataW.trod enc P w base spare held k f.type ((cs.drop f.offset).take (P.cellsOf f.type))) with
          | none => rw [hm] at h; cases h
          | some xs =>
            obtain ⟨parts, p1, p2, p3⟩ := struct_typed (top := top) ih fs.toList 0 (szOf P t) xs (tilesB_spec htl) (by rw [sz_cells]; exact hc) hm
            rw [List.drop_zero] at p1
            exact ⟨_, p1, by simp only [Typed, hu]; exact fun _ => ⟨parts, rfl, p2, p3⟩⟩
        · cases h
      | _ => exact ⟨_, bads_conc cs, by simp only [Typed, hu]⟩
/-- An argument, told by value. -/
theorem arg_of {r : Reach} {b0 : Nat} {w1 : World} {t : TypeId} {v : Value} {d : DataW H} {ps : List MemPlace} (hval : Value.okWide P w1 r b0 t v) (hd : DataW.Trod enc P w base spare held t v d ps)
    (top : Nat) : ∃ k av l, Conc (inEnv w.heap top) av v ∧ Typed P k t l ∧ (l = [av] ∨ av = .ag l) := by
  obtain ⟨k, hk⟩ := hd
  obtain ⟨l, h1, h2⟩ := typed_of (top := top) k t _ d ps hk
  by_cases hag : ∃ cs, v = .agg cs
  · obtain ⟨cs, rfl⟩ := hag
    exact ⟨k, .ag l, l, by simpa using Conc.ag l cs.toList h1, h2, .inr rfl⟩
  · have hc : v.cells = #[v] := by
      cases v <;> first | rfl | (exact absurd ⟨_, rfl⟩ hag)
    rw [hc] at h1
    cases h1 with
    | cons a l u us c1 c2 =>
      cases c2
      exact ⟨k, a, [a], c1, h2, .inl rfl⟩

/-- One that is no struct and no array. -/
theorem arg_one {r : Reach} {b0 : Nat} {w1 : World} {t : TypeId} {v : Value} {d : DataW H} {ps : List MemPlace} (hval : Value.okWide P w1 r b0 t v) (hd : DataW.Trod enc P w base spare held t v d ps)
    (hn : isAg P t = false) (top : Nat) : ∃ k av, Conc (inEnv w.heap top) av v ∧ Typed P k t [av] := by
  obtain ⟨k, hk⟩ := hd
  obtain ⟨l, h1, h2⟩ := typed_of (top := top) k t _ d ps hk
  have hag : ¬ ∃ cs, v = .agg cs := by
    rintro ⟨cs, rfl⟩
    unfold Value.okWide at hval
    unfold isAg at hn
    cases hu : P.underlying t with
    | none => rw [hu] at hval; simp only [Cell.okWide, Cell.ok, hu] at hval
    | some u =>
      rw [hu] at hval hn
      cases u <;> simp only [Cell.okWide, Cell.ok, hu] at hval <;> cases hn
  have hc : v.cells = #[v] := by
    cases v <;> first | rfl | (exact absurd ⟨_, rfl⟩ hag)
  rw [hc] at h1
  cases h1 with
  | cons a l u us c1 c2 =>
    cases c2
    exact ⟨k, a, c1, h2⟩
end

theorem inEnv_le (H : Array Obj) (a b : Nat) : (inEnv H a).le (inEnv H b) := ⟨fun _ _ h => h, fun _ _ h => h⟩
theorem body_at {S : Self} {n : Nat} {f : FuncId} {xs : List AV} {fn : Func} {c : Code} {st : St} (h : P.funcs[f]? = some fn) (hb : fn.body = some c) (hn : xs.length ≤ fn.ntmps) :
    evBody P S n f xs st = endF P fn.results.toList (evC c ⟨P, S, false, fn.ntmps, n⟩ (tmpsOf xs 0 .lf) st) := by
  unfold evBody
  rw [h]
  simp only [hb]
  rw [Nat.ble_eq_true_of_le hn]

/-- What is known of a function, of arguments that are there, where a closed function is known to answer true. -/
theorem run_calls (hng : NoNG P) (hmx : P.follows .mixedOrders = true) {n n' m : Nat} {g f : FuncId} (hg : saysTrue P m g = true) {l : List AV} {us : List Value} (hc : ∀ top, ConcL (inEnv w.heap top) l us) {st' : St}
    (he : evBody P (withTrue g (self P n)) n' f l st0 = some (.b true, st')) :
    ∃ w', CallsTo P f us.toArray w w' (.bool true) ∧ w'.os = w.os ∧ w'.output = w.output ∧ w.heap.size ≤ w'.heap.size ∧ ∀ i, i < w.heap.size → w'.heap[i]? = w.heap[i]? := by
  obtain ⟨E', w', cv, h1, h2, h3⟩ := body_spec (withTrue_ok (self_ok hng hmx n) (fun w => saysTrue_calls hng hmx hg w)) (w := w) (us := us) (inEnv_rel w.heap st'.next) (hc _) he (Nat.le_refl _)
  cases h3
  refine ⟨w', h1, h2.os, h2.out, h2.fr.size, fun i hi => h2.fr.keep i hi ?_⟩
  rintro ⟨r, row, B, ha, _, _⟩
  have := Rel.alive_get ha
  rw [st0_get] at this; cases this

end
end Go.Ev
