/- Slices that the call itself made: read, appended to, kept while other rows change. -/
import Derived.Test.YtgjbgebejiapmaaGreatDoorEvSym
namespace Go.Ev
noncomputable section
variable {P : Program} {S : Self} {t : Tr AV} {st : St}

/-- What was there is there: but for the rows A, and the families B. -/
structure Kp (A B : List Nat) (st st' : St) : Prop where
  next : st.next ≤ st'.next
  get : ∀ r, r < st.next → r ∉ A → st'.get r = st.get r
  live : ∀ g, g < st.next → g ∉ B → st'.live.get g = st.live.get g
theorem Kp.refl (A B : List Nat) (st : St) : Kp A B st st := ⟨Nat.le_refl _, fun _ _ _ => rfl, fun _ _ _ => rfl⟩
theorem Kp.trans {A B : List Nat} {a b c : St} (h : Kp A B a b) (k : Kp A B b c) : Kp A B a c :=
  ⟨Nat.le_trans h.next k.next, fun r h1 h2 => (k.get r (Nat.lt_of_lt_of_le h1 h.next) h2).trans (h.get r h1 h2), fun r h1 h2 => (k.live r (Nat.lt_of_lt_of_le h1 h.next) h2).trans (h.live r h1 h2)⟩
theorem Kp.sub {A B A' B' : List Nat} {a b : St} (h : Kp A B a b) (h1 : ∀ x, x ∈ A → x ∈ A') (h2 : ∀ x, x ∈ B → x ∈ B') : Kp A' B' a b :=
  ⟨h.next, fun r k1 k2 => h.get r k1 fun hh => k2 (h1 _ hh), fun r k1 k2 => h.live r k1 fun hh => k2 (h2 _ hh)⟩
theorem Keep.kp {A : List Nat} {a b : St} (h : Keep A a b) : Kp A A a b := ⟨h.next, h.get, h.live⟩
theorem Kp.setCe {A B : List Nat} {r : Nat} {l : List AV} {g : Nat} (h1 : r ∈ A) (h2 : g ∈ B) : Kp A B st (st.setCe r l g) :=
  ⟨Nat.le_refl _, fun r' _ h => setCe_get fun e => h (e ▸ h1), fun g' _ h => by
    have : g' ≠ g := fun e => h (e ▸ h2)
    simp [St.setCe, Tr.get_set, this]⟩
theorem Kp.put {A B : List Nat} {r : Nat} {w : Row} (h1 : r ∈ A) : Kp A B st (st.put r w) :=
  ⟨Nat.le_refl _, fun r' _ h => by
    have : r' ≠ r := fun e => h (e ▸ h1)
    rw [St.get_put, if_neg this], fun _ _ _ => rfl⟩
theorem Kp.newCe (A B : List Nat) (l : List AV) : Kp A B st (st.newCe l) := ⟨(Keep.newCe [] l).next, fun r h _ => (Keep.newCe [] l).get r h (by simp), fun g h _ => (Keep.newCe [] l).live g h (by simp)⟩
theorem Kp.ce {A B : List Nat} {st st' : St} (h : Kp A B st st') {r : Nat} {l : List AV} {g : Nat} {al : List Nat} (hc : st.ce r = some (l, g, al)) (h1 : r < st.next) (h2 : g < st.next) (h3 : r ∉ A) (h4 : g ∉ B) : st'.ce r = some (l, g, al) := by
  obtain ⟨k1, k2, k3⟩ := ce_three hc
  unfold St.ce
  rw [h.get r h1 h3, k1]
  simp only
  rw [h.live g h2 h4, k2]
  simp only [k3]

/-! Regions that draw their order, where no look floats: the order of the text. -/
theorem recs_last {nt : Nat} {ops : Array Oper} : ∀ (l : List Oper) (t : Tr AV) (st : St), (recs P S nt ops l t st = none → evOps P S nt ops l t st = .no) ∧ (∀ R, recs P S nt ops l t st = some R → R ≠ [] ∧ evOps P S nt ops l t st = lastOf R)
  | [], t, st => ⟨fun h => (by cases h), fun R h => by cases h; exact ⟨by simp, rfl⟩⟩
  | o :: l, t, st => by
    have e1 : evOps P S nt ops (o :: l) t st = onG P S nt o t st (evOps P S nt ops l) (guardOk ops t o) := rfl
    have e2 : recs P S nt ops (o :: l) t st = (match guardOk ops t o with
      | some true => recsV nt t st o.dst (evOp P S t st o) (recs P S nt ops l)
      | some false => recsT ⟨t, st, .un, false⟩ (putT nt t o.dst .un) fun t => recs P S nt ops l t st
      | none => none) := rfl
    have rt : ∀ (r : Rec) (q : Option (Tr AV)) (st' : St), (recsT r q (fun t => recs P S nt ops l t st') = none → onT q (fun t => evOps P S nt ops l t st') = .no) ∧
        (∀ R, recsT r q (fun t => recs P S nt ops l t st') = some R → R ≠ [] ∧ onT q (fun t => evOps P S nt ops l t st') = lastOf R) := by
      intro r q st'
      cases q with
      | none => exact ⟨fun _ => rfl, fun R h => by cases h⟩
      | some t' =>
        rw [onT_some]
        obtain ⟨i1, i2⟩ := recs_last l t' st'
        show (onRec r (recs P S nt ops l t' st') = none → _) ∧ (∀ R, onRec r (recs P S nt ops l t' st') = some R → _)
        cases hr : recs P S nt ops l t' st' with
        | none => exact ⟨fun _ => i1 hr, fun R h => by cases h⟩
        | some R0 =>
          obtain ⟨j1, j2⟩ := i2 R0 hr
          refine ⟨fun h => (by cases h), fun R h => ?_⟩
          cases h
          refine ⟨by simp, ?_⟩
          rw [j2]
          cases R0 with
          | nil => exact absurd rfl j1
          | cons a R1 => rfl
    rw [e1, e2]
    cases guardOk ops t o with
    | none => exact ⟨fun _ => rfl, fun R h => by cases h⟩
    | some b =>
      cases b with
      | false => exact rt _ _ _
      | true =>
        show (recsV nt t st o.dst (evOp P S t st o) (recs P S nt ops l) = none → onV nt t o.dst (evOp P S t st o) (evOps P S nt ops l) = .no) ∧ _
        cases hv : evOp P S t st o with
        | none => exact ⟨fun _ => rfl, fun R h => by cases h⟩
        | some p =>
          obtain ⟨v, st'⟩ := p
          have := rt ⟨t, st, v, true⟩ (putT nt t o.dst v) st'
          refine ⟨this.1, fun R h => ?_⟩
          refine ⟨(this.2 R h).1, ?_⟩
          rw [← (this.2 R h).2]
          show onV nt t o.dst (evOp P S t st o) _ = _
          rw [hv]; rfl

theorem drawC_eq {x : Ctx} {ops : Array Oper} {fl : List (Nat × Nat)} (hp : plan ops = some fl) (hc : ∀ R, recs x.P x.S x.nt ops ops.toList t st = some R → fl.all (recheck x.P x.S ops R) = true) :
    drawC x ops t st = evOps x.P x.S x.nt ops ops.toList t st := by
  unfold drawC
  rw [hp]
  show drawR x.P x.S ops fl (recs x.P x.S x.nt ops ops.toList t st) = _
  obtain ⟨h1, h2⟩ := recs_last (P := x.P) (S := x.S) (nt := x.nt) (ops := ops) ops.toList t st
  cases hr : recs x.P x.S x.nt ops ops.toList t st with
  | none => rw [h1 hr]; rfl
  | some R =>
    rw [(h2 R hr).2]
    show cond (fl.all (recheck x.P x.S ops R)) (lastOf R) .no = _
    rw [hc R hr]
    rfl
theorem drawC_nil {x : Ctx} {ops : Array Oper} (hp : plan ops = some []) : drawC x ops t st = evOps x.P x.S x.nt ops ops.toList t st := drawC_eq hp fun _ _ => rfl

/-- A type of slices of bytes. -/
structure ByteTy (P : Program) (ty e : TypeId) : Prop where
  und : P.underlying ty = some (.slice e)
  inf : hasInfo P e = true
  sz : szOf P e = 1
  ag : isAg P e = false
  plain : plainArg P [ty, ty] = true
  fit : ∀ n, n ≤ 10000000 → fits P e n = true

/-- A slice that can be read: of data that stay, or of a row of the call's own; it keeps clear of the rows and families X. -/
def Rd (st : St) (X : List Nat) (v : AV) (cells : List AV) : Prop := IsSl v cells ∨ (∃ r c, v = .sl r 0 0 1 c ∧ cells = []) ∨
  ∃ r c l g al, v = .sl r 0 cells.length 1 c ∧ st.ce r = some (l, g, al) ∧ l.take cells.length = cells ∧ r < st.next ∧ g < st.next ∧ r ∉ X ∧ g ∉ X

section
variable {X : List Nat} {v a : AV} {cells cs : List AV} {ty e : TypeId}
theorem Rd.len (h : Rd st X v cells) : lenOf v = some cells.length := by
  rcases h with h | ⟨r, c, rfl, rfl⟩ | ⟨r, c, l, g, al, rfl, -⟩
  · exact h.len
  · rfl
  · rfl
theorem Rd.text (h : Rd st X v cells) : isText v = false := by
  rcases h with h | ⟨r, c, rfl, rfl⟩ | ⟨r, c, l, g, al, rfl, -⟩
  · exact h.text
  · rfl
  · rfl
theorem Rd.nat (h : Rd st X v cells) : natOf v = none := by
  rcases h with h | ⟨r, c, rfl, rfl⟩ | ⟨r, c, l, g, al, rfl, -⟩
  · exact h.nat
  · rfl
  · rfl
theorem take_len {n : Nat} {l : List AV} (h : l.take cells.length = cells) : cells.length ≤ l.length := by
  have := congrArg List.length h
  simp at this; omega
theorem takeN_take : ∀ (n : Nat) (l : List AV), n ≤ l.length → takeN n l = some (l.take n)
  | 0, l, _ => by simp
  | n + 1, [], h => by simp at h
  | n + 1, v :: l, h => by simp only [takeN, takeN_take n l (by simpa using h), List.take_succ_cons]
theorem Rd.first (h : Rd st X v cells) : firstCells st 1 cells.length v = some cells := by
  rcases h with h | ⟨r, c, rfl, rfl⟩ | ⟨r, c, l, g, al, rfl, hc, ht, -⟩
  · exact h.first st
  · rfl
  · show (@Bool.rec (fun _ => Option (List AV)) (rd st r 0 (cells.length * 1)) (some []) (Nat.beq cells.length 0)) = _
    by_cases h0 : cells.length = 0
    · rw [nbeq, decide_eq_true h0, List.eq_nil_of_length_eq_zero h0]
    · rw [nbeq, decide_eq_false h0, rd_of hc, Nat.mul_one, cut_zero, takeN_take _ _ (take_len (n := 0) ht), ht]
theorem Rd.at (bt : ByteTy P ty e) (h : Rd st X v cells) {k : Nat} (hk : k < cells.length) : ∃ a, indexAddr P ty v (.i .i64 (k : Int)) = some a ∧ loadAt P e st a = some cells[k] := by
  rcases h with h | ⟨r, c, rfl, rfl⟩ | ⟨r, c, l, g, al, rfl, hc, ht, -⟩
  · rcases h with ⟨rfl, rfl⟩ | rfl
    · cases hk
    · refine ⟨_, index_rs bt.und bt.inf bt.sz _ _ _ hk, ?_⟩
      rw [Nat.mul_one, load_rp bt.inf bt.ag, List.drop_eq_getElem_cons hk]; rfl
  · cases hk
  · refine ⟨_, index_sl bt.und bt.inf bt.sz _ _ _ _ _ hk, ?_⟩
    rw [Nat.zero_add, Nat.mul_one, load_p bt.inf bt.ag, rd_of hc, takeN_get l k (by have := take_len (n := 0) ht; omega)]
    have : cells[k] = l[k]'(by have := take_len (n := 0) ht; omega) := by
      have e : (l.take cells.length)[k]? = cells[k]? := by rw [ht]
      rw [List.getElem?_take, if_pos hk] at e
      rw [List.getElem?_eq_getElem hk, List.getElem?_eq_getElem (by have := take_len (n := 0) ht; omega)] at e
      exact (Option.some.inj e).symm
    rw [this]; rfl
theorem Rd.keep {A B : List Nat} {st' : St} (h : Rd st X v cells) (k : Kp A B st st') (h1 : ∀ x, x ∈ A → x ∈ X) (h2 : ∀ x, x ∈ B → x ∈ X) : Rd st' X v cells := by
  rcases h with h | h | ⟨r, c, l, g, al, rfl, hc, ht, h3, h4, h5, h6⟩
  · exact .inl h
  · exact .inr (.inl h)
  · exact .inr (.inr ⟨r, c, l, g, al, rfl, k.ce hc h3 h4 (fun hh => h5 (h1 _ hh)) (fun hh => h6 (h2 _ hh)), ht, Nat.lt_of_lt_of_le h3 k.next, Nat.lt_of_lt_of_le h4 k.next, h5, h6⟩)
theorem Rd.sub {X' : List Nat} (h : Rd st X v cells) (hs : ∀ x, x ∈ X' → x ∈ X) : Rd st X' v cells := by
  rcases h with h | h | ⟨r, c, l, g, al, rfl, hc, ht, h3, h4, h5, h6⟩
  · exact .inl h
  · exact .inr (.inl h)
  · exact .inr (.inr ⟨r, c, l, g, al, rfl, hc, ht, h3, h4, fun hh => h5 (hs _ hh), fun hh => h6 (hs _ hh)⟩)

/-- A slice that is appended to again and again; its family, if it has cells. -/
def Ow (st : St) (X : List Nat) (a : AV) (cs : List AV) (g : Option Nat) : Prop := (a = .sn ∧ cs = [] ∧ g = none) ∨ (∃ r, a = .sl r 0 0 1 (some 0) ∧ cs = [] ∧ g = none) ∨
  ∃ r f al, g = some f ∧ a = .sl r 0 cs.length 1 none ∧ st.ce r = some (cs, f, al) ∧ r < st.next ∧ f < st.next ∧ r ∉ X ∧ f ∉ X
theorem Ow.rd {g : Option Nat} (h : Ow st X a cs g) : Rd st X a cs := by
  rcases h with ⟨rfl, rfl, -⟩ | ⟨r, rfl, rfl, -⟩ | ⟨r, f, al, -, rfl, hc, h1, h2, h3, h4⟩
  · exact .inl (.inl ⟨rfl, rfl⟩)
  · exact .inr (.inl ⟨r, _, rfl, rfl⟩)
  · exact .inr (.inr ⟨r, none, cs, f, al, rfl, hc, List.take_length, h1, h2, h3, h4⟩)
theorem Ow.keep {A B : List Nat} {st' : St} {g : Option Nat} (h : Ow st X a cs g) (k : Kp A B st st') (h1 : ∀ x, x ∈ A → x ∈ X) (h2 : ∀ x, x ∈ B → x ∈ X ∨ g ≠ some x) : Ow st' X a cs g := by
  rcases h with h | h | ⟨r, f, al, rfl, rfl, hc, h3, h4, h5, h6⟩
  · exact .inl h
  · exact .inr (.inl h)
  · exact .inr (.inr ⟨r, f, al, rfl, rfl, k.ce hc h3 h4 (fun hh => h5 (h1 _ hh)) (fun hh => (h2 _ hh).elim h6 fun hn => hn rfl), Nat.lt_of_lt_of_le h3 k.next, Nat.lt_of_lt_of_le h4 k.next, h5, h6⟩)

theorem allSc_bytes : ∀ {cells : List AV}, (∀ c ∈ cells, ∃ b, c = .i .u8 b) → allSc cells = true
  | [], _ => rfl
  | c :: l, hs => by
    obtain ⟨b, hb⟩ := hs c (List.mem_cons_self ..)
    rw [allSc_cons, allSc_bytes fun c hc => hs c (List.mem_cons_of_mem _ hc), hb]; rfl

/-- Appended to. -/
theorem append_own (bt : ByteTy P ty e) {g : Option Nat} {X' : List Nat} (h : Ow st X a cs g) (hv : Rd st X' v cells) (hs : ∀ c ∈ cells, ∃ b, c = .i .u8 b) (hn : cs.length + cells.length ≤ 10000000) (hX : ∀ x ∈ X, x < st.next) :
    ∃ a' g' st', append P st [ty, ty] a v = some (a', st') ∧ Ow st' X a' (cs ++ cells) g' ∧ Kp [] g.toList st st' ∧ (g' = g ∨ g' = some st.next) := by
  have e0 : (plainArg P [ty, ty] && hasInfo P e && allSc cells) = true := by rw [bt.plain, bt.inf, allSc_bytes hs]; rfl
  have el : elOf P ty = some e := by unfold elOf; rw [bt.und]
  have hnew : st.next ∉ X := fun hh => Nat.lt_irrefl _ (hX _ hh)
  by_cases h0 : cells.length = 0
  · obtain rfl := List.eq_nil_of_length_eq_zero h0
    refine ⟨a, g, st, ?_, by simpa using h, .refl _ _ _, .inl rfl⟩
    unfold append
    simp only [el, hv.len, bt.sz, hv.first, e0]
    rcases h with ⟨rfl, rfl, -⟩ | ⟨r, rfl, rfl, -⟩ | ⟨r, f, al, -, rfl, -⟩ <;> simp [nbeq, bt.sz]
  · have hb0 : Nat.beq cells.length 0 = false := by rw [nbeq]; simpa using h0
    rcases h with ⟨rfl, rfl, rfl⟩ | ⟨r, rfl, rfl, rfl⟩ | ⟨r, f, al, rfl, rfl, h1, h2, h3, h4, h5⟩
    · refine ⟨.sl st.next 0 cells.length 1 none, some st.next, st.newCe cells, ?_, .inr (.inr ⟨st.next, st.next, _, rfl, by simp, by simpa using newCe_ce cells, Nat.lt_succ_self _, Nat.lt_succ_self _, hnew, hnew⟩), .newCe _ _ _, .inr rfl⟩
      unfold append
      simp only [el, hv.len, bt.sz, hv.first, e0, hb0, bt.fit _ (show cells.length ≤ 10000000 by omega)]
      rfl
    · refine ⟨.sl st.next 0 cells.length 1 none, some st.next, st.newCe cells, ?_, .inr (.inr ⟨st.next, st.next, _, rfl, by simp, by simpa using newCe_ce cells, Nat.lt_succ_self _, Nat.lt_succ_self _, hnew, hnew⟩), .newCe _ _ _, .inr rfl⟩
      unfold append
      have e2 : Nat.ble (0 + cells.length) 0 = false := by
        rw [Bool.eq_false_iff]; intro hh
        have := Nat.le_of_ble_eq_true hh
        omega
      simp only [el, hv.len, bt.sz, hv.first, e0, hb0, e2, bt.fit _ (show 0 + cells.length ≤ 10000000 by omega), nbeq, decide_true]
      simp [firstCells, grow, nbeq]
    · obtain ⟨st', k1, ⟨al', k2⟩, k3, k4, k5⟩ := grow_row (new := cells) h1 rfl h3
      refine ⟨_, some f, st', ?_, .inr (.inr ⟨st.next, f, al', rfl, by rw [List.length_append], k2, by omega, by omega, hnew, h5⟩), ⟨by omega, fun r h _ => k4 r h, fun g h hg => k5 g (by simpa using hg)⟩, .inl rfl⟩
      unfold append
      simp only [el, hv.len, bt.sz, hv.first, e0, hb0]
      have e2 : Nat.ble (cs.length + cells.length) (roomed st r 0 1) = false := by
        have : roomed st r 0 1 = cs.length := by unfold roomed; rw [h1]; simp
        rw [this, Bool.eq_false_iff]
        intro hh
        have := Nat.le_of_ble_eq_true hh
        omega
      show @Bool.rec (fun _ => Option (AV × St)) none (growAny st r 0 cs.length 1 (cs.length + cells.length) cells (fits P e (cs.length + cells.length))) true = _
      rw [bt.fit _ hn]
      show growAny st r 0 cs.length 1 (cs.length + cells.length) cells true = _
      unfold growAny
      rw [e2]
      exact k1
end

end
end Go.Ev
