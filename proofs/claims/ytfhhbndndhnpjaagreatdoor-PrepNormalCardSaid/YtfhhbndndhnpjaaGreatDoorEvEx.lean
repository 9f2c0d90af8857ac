/- Expressions of the core, as data: their cells; how many there are, and how deep. -/
import Derived.Test.YtfhhbndndhnpjaaGreatDoorEvSym3
namespace Go.Ev
noncomputable section

mutual
/-- An expression: its kind, name, number, parameters; what it binds, its arguments, its alternatives. -/
inductive Ex where
  | mk (k : Int) (nm : List Nat) (num : Int) (ps : AV) (b a l : ExL)
/-- Parts, each with cells of its own ahead of it; of none, whether the slice is nil. -/
inductive ExL where
  | nil (f : Bool)
  | cons (p : List AV) (x : Ex) (l : ExL)
end

def ExL.list : ExL → List (List AV × Ex)
  | .nil _ => []
  | .cons p x l => (p, x) :: l.list

/-- Its kind; is it an atom? -/
def Ex.kind : Ex → Int
  | .mk k _ _ _ _ _ _ => k
def atomK (k : Int) : Bool := decide (k = 1) || (decide (k = 2) || decide (k = 3))
def Ex.atom (x : Ex) : Bool := atomK x.kind

mutual
def Ex.cells : Ex → List AV
  | .mk k nm num ps b a l => [.i .i64 k, .s nm, .i .i64 num, ps, b.slice 8, a.slice 7, l.slice 11]
def ExL.slice : ExL → Nat → AV
  | .nil true, _ => .sn
  | .nil false, z => .rs [] 0 z
  | .cons p x l, z => .rs (p ++ x.cells ++ l.flat) (l.len + 1) z
def ExL.flat : ExL → List AV
  | .nil _ => []
  | .cons p x l => p ++ x.cells ++ l.flat
def ExL.len : ExL → Nat
  | .nil _ => 0
  | .cons _ _ l => l.len + 1
end

mutual
def Ex.size : Ex → Nat
  | .mk _ _ _ _ b a l => 1 + b.size + a.size + l.size
def ExL.size : ExL → Nat
  | .nil _ => 0
  | .cons _ x l => x.size + l.size
end
mutual
def Ex.depth : Ex → Nat
  | .mk _ _ _ _ b a l => 1 + max b.depth (max a.depth l.depth)
def ExL.depth : ExL → Nat
  | .nil _ => 0
  | .cons _ x l => max x.depth l.depth
end

/-- Each part has as many cells ahead as it must. -/
def ExL.pre (m : Nat) (l : ExL) : Prop := ∀ p ∈ l.list, p.1.length = m
mutual
def Ex.Wf : Ex → Prop
  | .mk k _ _ ps b a l => (-9223372036854775808 ≤ k ∧ k ≤ 9223372036854775807) ∧ (b.pre 1 ∧ a.pre 0 ∧ l.pre 4) ∧ (b.Wf ∧ a.Wf ∧ l.Wf) ∧ isSc ps = true
def ExL.Wf : ExL → Prop
  | .nil _ => True
  | .cons p x l => (x.Wf ∧ allSc p = true) ∧ l.Wf
end

theorem ExL.wf_list : ∀ {l : ExL}, l.Wf → ∀ p ∈ l.list, p.2.Wf ∧ allSc p.1 = true
  | .nil _, _, p, hp => by simp [ExL.list] at hp
  | .cons q x l, h, p, hp => by
    simp only [ExL.Wf] at h
    rcases List.mem_cons.1 hp with rfl | hp
    · exact h.1
    · exact ExL.wf_list h.2 p hp

/-- What holds of an expression if it holds of its parts holds of all. -/
theorem Ex.ind {C : Ex → Prop} (h : ∀ k nm num ps b a l, (∀ p ∈ ExL.list b, C p.2) → (∀ p ∈ ExL.list a, C p.2) → (∀ p ∈ ExL.list l, C p.2) → C (.mk k nm num ps b a l)) : ∀ x, C x :=
  Ex.rec (motive_1 := C) (motive_2 := fun l => ∀ p ∈ ExL.list l, C p.2) (fun k nm num ps b a l hb ha hl => h k nm num ps b a l hb ha hl)
    (fun f p hp => by simp [ExL.list] at hp) (fun q x l hx hl p hp => by
      rcases List.mem_cons.1 hp with rfl | hp
      · exact hx
      · exact hl p hp)

theorem Ex.cells_len : ∀ x : Ex, x.cells.length = 7
  | .mk .. => by simp [Ex.cells]

theorem ExL.flat_eq : ∀ l : ExL, l.flat = (l.list.map fun p => p.1 ++ p.2.cells).flatten
  | .nil _ => rfl
  | .cons p x l => by simp [ExL.flat, ExL.list, ExL.flat_eq l]
theorem ExL.len_eq : ∀ l : ExL, l.len = l.list.length
  | .nil _ => rfl
  | .cons p x l => by simp [ExL.len, ExL.list, ExL.len_eq l]
theorem ExL.size_eq : ∀ l : ExL, l.size = (l.list.map fun p => p.2.size).sum
  | .nil _ => rfl
  | .cons p x l => by simp [ExL.size, ExL.list, ExL.size_eq l]
theorem Ex.size_pos : ∀ x : Ex, 1 ≤ x.size
  | .mk .. => by simp only [Ex.size]; omega
theorem ExL.len_le : ∀ l : ExL, l.len ≤ l.size
  | .nil _ => Nat.le_refl _
  | .cons p x l => by
    have := x.size_pos
    have := ExL.len_le l
    simp only [ExL.len, ExL.size]; omega
theorem ExL.size_mem : ∀ {l : ExL} {p : List AV × Ex}, p ∈ l.list → p.2.size ≤ l.size
  | .nil _, p, h => by simp [ExL.list] at h
  | .cons q x l, p, h => by
    simp only [ExL.size]
    rcases List.mem_cons.1 h with rfl | h
    · show x.size ≤ _; omega
    · have := ExL.size_mem h; omega
theorem ExL.depth_mem : ∀ {l : ExL} {p : List AV × Ex}, p ∈ l.list → p.2.depth ≤ l.depth
  | .nil _, p, h => by simp [ExL.list] at h
  | .cons q x l, p, h => by
    simp only [ExL.depth]
    rcases List.mem_cons.1 h with rfl | h
    · show x.depth ≤ _; omega
    · have := ExL.depth_mem h; omega

theorem ExL.slice_len (l : ExL) (z : Nat) : lenOf (l.slice z) = some l.len := by
  cases l with
  | nil f => cases f <;> simp [ExL.slice, ExL.len] <;> rfl
  | cons p x l => simp [ExL.slice, ExL.len]; rfl
theorem ExL.slice_text (l : ExL) (z : Nat) : isText (l.slice z) = false := by
  cases l with
  | nil f => cases f <;> simp [ExL.slice] <;> rfl
  | cons p x l => simp [ExL.slice]; rfl
theorem ExL.slice_rs {l : ExL} {z i : Nat} (h : i < l.len) : l.slice z = .rs l.flat l.len z := by
  cases l with
  | nil f => simp [ExL.len] at h
  | cons p x l => simp [ExL.slice, ExL.flat, ExL.len]
theorem ExL.slice_cells (l : ExL) (z : Nat) : (l.slice z).cells = some [l.slice z] := by
  cases l with
  | nil f => cases f <;> simp [ExL.slice]
  | cons p x l => simp [ExL.slice]

/-- The cells from the i-th part on. -/
theorem flat_drop {z : Nat} : ∀ (L : List (List AV × Ex)) (i : Nat) (h : i < L.length), (∀ p ∈ L, p.1.length + 7 = z) →
    ((L.map fun p => p.1 ++ p.2.cells).flatten).drop (i * z) = L[i].1 ++ (L[i].2.cells ++ ((L.drop (i + 1)).map fun p => p.1 ++ p.2.cells).flatten)
  | p :: L, 0, _, _ => by simp
  | p :: L, i + 1, h, hz => by
    have := flat_drop L i (by simpa using h) fun q hq => hz q (List.mem_cons_of_mem _ hq)
    have hp := hz p (List.mem_cons_self ..)
    have hl : (p.1 ++ p.2.cells).length = z := by rw [List.length_append, p.2.cells_len]; omega
    have e : z + i * z - (p.1 ++ p.2.cells).length = i * z := by omega
    rw [show (i + 1) * z = z + i * z by rw [Nat.add_mul]; omega, List.map_cons, List.flatten_cons, List.drop_append, e, List.drop_eq_nil_of_le (as := p.1 ++ p.2.cells) (by omega), List.nil_append]
    simpa using this

/-- So many are in the first i parts. -/
def sumTo (L : List (List AV × Ex)) (i : Nat) : Nat := ((L.take i).map fun p => p.2.size).sum
theorem sumTo_zero (L : List (List AV × Ex)) : sumTo L 0 = 0 := by simp [sumTo]
theorem sumTo_succ {L : List (List AV × Ex)} {i : Nat} (h : i < L.length) : sumTo L (i + 1) = sumTo L i + L[i].2.size := by
  have h1 : L.take (i + 1) = L.take i ++ [L[i]] := (List.take_append_getElem h).symm
  simp only [sumTo, h1, List.map_append, List.sum_append, List.map_cons, List.map_nil, List.sum_cons, List.sum_nil, Nat.add_zero]
theorem sumTo_ge (L : List (List AV × Ex)) : ∀ i, i ≤ L.length → i ≤ sumTo L i
  | 0, _ => Nat.zero_le _
  | i + 1, h => by
    have h1 := sumTo_ge L i (by omega)
    have h2 := (L[i]'(by omega)).2.size_pos
    rw [sumTo_succ (by omega : i < L.length)]; omega
theorem sumTo_all (l : ExL) : sumTo l.list l.list.length = l.size := by simp [sumTo, ExL.size_eq]

theorem takeN_app (l r : List AV) : takeN l.length (l ++ r) = some l := by
  rw [takeN_take _ _ (by simp), List.take_left]
theorem take_cells (x : Ex) (r : List AV) : takeN 7 (x.cells ++ r) = some x.cells := by
  have := takeN_app x.cells r
  rwa [x.cells_len] at this

/-- The i-th part: what lies ahead of it, itself, what lies behind. -/
theorem part_at {l : ExL} {m z i : Nat} (hp : l.pre m) (hz : m + 7 = z) (hi : i < l.list.length) : ∃ r, l.flat.drop (i * z) = l.list[i].1 ++ (l.list[i].2.cells ++ r) ∧ l.list[i].1.length = m := by
  rw [ExL.flat_eq]
  refine ⟨_, flat_drop l.list i hi fun p h => by rw [hp p h]; exact hz, hp _ (List.getElem_mem hi)⟩

theorem ExL.depth_le : ∀ {l : ExL} {D : Nat}, (∀ j (h : j < l.list.length), l.list[j].2.depth ≤ D) → l.depth ≤ D
  | .nil _, D, _ => Nat.zero_le _
  | .cons p x l, D, h => by
    have h0 : x.depth ≤ D := h 0 (by simp [ExL.list])
    have h1 : l.depth ≤ D := ExL.depth_le fun j hj => h (j + 1) (by simpa [ExL.list] using hj)
    simp only [ExL.depth]; omega

theorem ExL.slice_sc (l : ExL) (z : Nat) : isSc (l.slice z) = true := by
  cases l with
  | nil f => cases f <;> simp [ExL.slice]
  | cons p x l => simp [ExL.slice]
theorem Ex.cells_sc : ∀ {x : Ex}, x.Wf → allSc x.cells = true
  | .mk k nm num ps b a l, h => by
    simp only [Ex.Wf] at h
    simp [Ex.cells, ExL.slice_sc, h.2.2.2]
theorem allSc_append {l m : List AV} (h1 : allSc l = true) (h2 : allSc m = true) : allSc (l ++ m) = true := by
  induction l with
  | nil => exact h2
  | cons v l ih =>
    rw [allSc_cons, Bool.and_eq_true] at h1
    rw [List.cons_append, allSc_cons, h1.1, ih h1.2]; rfl

/-! A struct, copied into a row of its own. -/
theorem over_all {α : Type} : ∀ {l vs : List α}, vs.length = l.length → over l vs = vs
  | [], [], _ => rfl
  | x :: l, v :: vs, h => by rw [over_cons, over_all (by simpa using h)]
theorem alloc_store {s : St} {z cells : List AV} (hl : cells.length = z.length) (hs : allSc cells = true) : ∃ s', wt (s.newCe z) s.next 0 cells = some s' ∧ s'.ce s.next = some (cells, s.next, [s.next]) ∧ Kp [] [] s s' ∧ s.next < s'.next := by
  have hw := wt_of (newCe_ce (st := s) z) 0 cells (by omega) hs
  rw [ovr_zero, over_all hl] at hw
  exact ⟨_, hw, setCe_ce _ _ _, kp_new (.newCe [] [] z) (.setCe (A := [s.next]) (B := [s.next]) (by simp) (by simp)) (by simp) (by simp), Nat.lt_succ_self _⟩
theorem opH_alloc {P : Program} {S : Self} {t : Tr AV} {st : St} {e : TypeId} : opH (.alloc e) P S t st = allocC st (zeroC P e) := rfl
theorem store_ag {P : Program} {ty : TypeId} {n : Nat} (h : hasInfo P ty = true) (hs : szOf P ty = n) : ∀ (st : St) (r o : Nat) (l : List AV), l.length = n → storeAt P ty st (.p r o) (.ag l) = wt st r o l := by
  intro st r o l hl
  show storeC P ty st r o (AV.ag l).cells = _
  rw [cells_ag]
  simp [storeC, h, hs, hl]

end
end Go.Ev
