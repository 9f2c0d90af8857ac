/- Calls whose result is known: from such a state, of such arguments; what nobody leads to any more is forgotten behind them. -/
import Derived.Test.YtfknfmmmappbcaaGreatDoorEvCut
namespace Go.Ev

noncomputable section

/-! The same, told by true. -/
def eqLW {α : Type} (e : α → α → Bool) : List α → List α → Bool
  | [], [] => true
  | a :: x, b :: y => @Bool.rec (fun _ => Bool) false (eqLW e x y) (e a b)
  | _, _ => false
def eqON : Option Nat → Option Nat → Bool
  | none, none => true
  | some a, some b => Nat.beq a b
  | _, _ => false
def eqFn : Fn → Fn → Bool
  | .func a, .func b => Nat.beq a b
  | .yield a, .yield b => Nat.beq a b
  | _, _ => false
def eqStep (e : AV → AV → Bool) : AV → AV → Bool
  | .bad, .bad => true
  | .un, .un => true
  | .b x, .b y => x == y
  | .i k m, .i k' n => keq k k' && ieq m n
  | .s x, .s y => leq x y
  | .p r o, .p r' o' => Nat.beq r r' && Nat.beq o o'
  | .pn, .pn => true
  | .gp g, .gp g' => Nat.beq g g'
  | .rp c, .rp c' => eqLW e c c'
  | .sl r o n z c, .sl r' o' n' z' c' => Nat.beq r r' && (Nat.beq o o' && (Nat.beq n n' && (Nat.beq z z' && eqON c c')))
  | .sn, .sn => true
  | .rs c n z, .rs c' n' z' => eqLW e c c' && (Nat.beq n n' && Nat.beq z z')
  | .m r, .m r' => Nat.beq r r'
  | .mn, .mn => true
  | .f g x y, .f g' x' y' => eqFn g g' && (eqLW e x x' && eqLW e y y')
  | .fn0, .fn0 => true
  | .ifc t v, .ifc t' v' => Nat.beq t t' && e v v'
  | .if0, .if0 => true
  | .ag l, .ag l' => eqLW e l l'
  | .tu l, .tu l' => eqLW e l l'
  | .c r, .c r' => Nat.beq r r'
  | .cn, .cn => true
  | _, _ => false
def eqAV (n : Nat) : AV → AV → Bool := @Nat.rec (fun _ => AV → AV → Bool) (fun _ _ => false) (fun _ e => eqStep e) n
def eqEn (x y : AV × AV × Nat) : Bool := eqAV 6 x.1 y.1 && (eqAV 6 x.2.1 y.2.1 && Nat.beq x.2.2 y.2.2)
def eqRow : Row → Row → Bool
  | .ce l g, .ce l' g' => Nat.beq g g' && eqLW (eqAV 6) l l'
  | .mp es k, .mp es' k' => Nat.beq k k' && eqLW eqEn es es'
  | _, _ => false
def eqO {α : Type} (e : α → α → Bool) : Option α → Option α → Bool
  | none, none => true
  | some a, some b => e a b
  | _, _ => false
def eqTr {α : Type} (e : α → α → Bool) : Tr α → Tr α → Bool
  | .lf, .lf => true
  | .nd v l r, .nd v' l' r' => eqO e v v' && (eqTr e l l' && eqTr e r r')
  | _, _ => false
def eqSt (a b : St) : Bool := Nat.beq a.next b.next && (eqTr leq a.live b.live && eqTr eqRow a.rows b.rows)

/-- Does it tell the same alone of the same? -/
def Tells1 {α : Type} (e : α → α → Bool) : Prop := ∀ a b, e a b = true → a = b

theorem nat_tells : Tells1 Nat.beq := fun a b h => Nat.eq_of_beq_eq_true h
theorem eqLW_tells {α : Type} {e : α → α → Bool} (h : Tells1 e) : Tells1 (eqLW e)
  | [], [], _ => rfl
  | a :: x, b :: y, k => by
    have k : @Bool.rec (fun _ => Bool) false (eqLW e x y) (e a b) = true := k
    cases hab : e a b with
    | false => rw [hab] at k; cases k
    | true => rw [hab] at k; rw [h _ _ hab, eqLW_tells h x y k]
  | [], _ :: _, k => by cases k
  | _ :: _, [], k => by cases k
theorem leq_tells : Tells1 leq
  | [], [], _ => rfl
  | a :: x, b :: y, k => by
    have k : @Bool.rec (fun _ => Bool) false (leq x y) (Nat.beq a b) = true := k
    cases hab : Nat.beq a b with
    | false => rw [hab] at k; cases k
    | true => rw [hab] at k; rw [nat_tells _ _ hab, leq_tells x y k]
  | [], _ :: _, k => by cases k
  | _ :: _, [], k => by cases k
theorem eqO_tells {α : Type} {e : α → α → Bool} (h : Tells1 e) : Tells1 (eqO e)
  | none, none, _ => rfl
  | some a, some b, k => by rw [h a b k]
  | none, some _, k => by cases k
  | some _, none, k => by cases k
theorem eqON_tells : Tells1 eqON
  | none, none, _ => rfl
  | some a, some b, k => by rw [nat_tells a b k]
  | none, some _, k => by cases k
  | some _, none, k => by cases k
theorem eqFn_tells : Tells1 eqFn := by
  intro a b h
  unfold eqFn at h
  split at h
  · rw [nat_tells _ _ h]
  · rw [nat_tells _ _ h]
  · cases h
theorem eqTr_tells {α : Type} {e : α → α → Bool} (h : Tells1 e) : Tells1 (eqTr e)
  | .lf, .lf, _ => rfl
  | .nd v l r, .nd v' l' r', k => by
    have k : (eqO e v v' && (eqTr e l l' && eqTr e r r')) = true := k
    simp only [Bool.and_eq_true] at k
    rw [eqO_tells h _ _ k.1, eqTr_tells h _ _ k.2.1, eqTr_tells h _ _ k.2.2]
  | .lf, .nd _ _ _, k => by cases k
  | .nd _ _ _, .lf, k => by cases k
theorem ieq_tells : Tells1 ieq := by
  intro a b h
  unfold ieq at h
  split at h
  · rw [nat_tells _ _ h]
  · rw [nat_tells _ _ h]
  · cases h
theorem eqStep_tells {e : AV → AV → Bool} (h : Tells1 e) : Tells1 (eqStep e) := by
  intro a b k
  unfold eqStep at k
  have hl := eqLW_tells h
  split at k <;> (try simp only [Bool.and_eq_true] at k) <;> (try rfl) <;> (try (cases k; done))
  · rename_i x y; rw [eq_of_beq k]
  · rw [of_decide_eq_true k.1, ieq_tells _ _ k.2]
  · rw [leq_tells _ _ k]
  · rw [nat_tells _ _ k.1, nat_tells _ _ k.2]
  · rw [nat_tells _ _ k]
  · rw [hl _ _ k]
  · rw [nat_tells _ _ k.1, nat_tells _ _ k.2.1, nat_tells _ _ k.2.2.1, nat_tells _ _ k.2.2.2.1, eqON_tells _ _ k.2.2.2.2]
  · rw [hl _ _ k.1, nat_tells _ _ k.2.1, nat_tells _ _ k.2.2]
  · rw [nat_tells _ _ k]
  · rw [eqFn_tells _ _ k.1, hl _ _ k.2.1, hl _ _ k.2.2]
  · rw [nat_tells _ _ k.1, h _ _ k.2]
  · rw [hl _ _ k]
  · rw [hl _ _ k]
  · rw [nat_tells _ _ k]
theorem eqAV_tells : ∀ n, Tells1 (eqAV n)
  | 0 => fun _ _ h => by cases h
  | n + 1 => eqStep_tells (eqAV_tells n)
theorem eqEn_tells : Tells1 eqEn := by
  intro a b k
  obtain ⟨a1, a2, a3⟩ := a
  obtain ⟨b1, b2, b3⟩ := b
  unfold eqEn at k
  simp only [Bool.and_eq_true] at k
  have e1 := eqAV_tells 6 _ _ k.1
  have e2 := eqAV_tells 6 _ _ k.2.1
  have e3 := nat_tells _ _ k.2.2
  try simp only at e1 e2 e3
  rw [e1, e2, e3]
theorem eqRow_tells : Tells1 eqRow := by
  intro a b k
  unfold eqRow at k
  split at k
  · simp only [Bool.and_eq_true] at k; rw [nat_tells _ _ k.1, eqLW_tells (eqAV_tells 6) _ _ k.2]
  · simp only [Bool.and_eq_true] at k; rw [nat_tells _ _ k.1, eqLW_tells eqEn_tells _ _ k.2]
  · cases k
theorem eqSt_tells : Tells1 eqSt := by
  intro a b k
  unfold eqSt at k
  simp only [Bool.and_eq_true] at k
  obtain ⟨ra, la, na⟩ := a
  obtain ⟨rb, lb, nb⟩ := b
  have e1 := nat_tells _ _ k.1
  have e2 := eqTr_tells leq_tells _ _ k.2.1
  have e3 := eqTr_tells eqRow_tells _ _ k.2.2
  try simp only at e1 e2 e3
  rw [e1, e2, e3]

/-! What is known. -/
structure Memo where
  f : FuncId
  as : List AV
  st : St
  v : AV
  st' : St

def hitM (f : FuncId) (as : List AV) (st : St) (m : Memo) : Bool :=
  @Bool.rec (fun _ => Bool) false (@Bool.rec (fun _ => Bool) false (eqLW (eqAV 6) as m.as && eqSt st m.st) (Nat.beq st.next m.st.next)) (Nat.beq f m.f)
def findM (f : FuncId) (as : List AV) (st : St) : List Memo → Option Memo
  | [] => none
  | m :: ms => @Bool.rec (fun _ => Option Memo) (findM f as st ms) (some m) (hitM f as st m)
def orM (r : Unit → Res) : Option Memo → Res
  | some m => some (m.v, m.st')
  | none => r ()
def withMemo (ms : List Memo) (S : Self) : Self := ⟨fun f as st => orM (fun _ => S.call f as st) (findM f as st ms), S.code, S.dcall⟩
def keepR (rs gs : List Nat) : Res → Res
  | some (v, st) => some (v, keepS rs gs st)
  | none => none

def MemoOK (P : Program) (m : Memo) : Prop := m.st.next ≤ m.st'.next ∧ ∀ {E : Env} {w : World} {us : List Value}, Rel E w.heap m.st → ConcL E m.as us → m.st'.next ≤ E.top →
  ∃ E' w' cv, CallsTo P m.f us.toArray w w' cv ∧ StepW E E' w w' m.st m.st' ∧ Conc E' m.v cv

theorem hitM_spec {f : FuncId} {as : List AV} {st : St} {m : Memo} (h : hitM f as st m = true) : f = m.f ∧ as = m.as ∧ st = m.st := by
  unfold hitM at h
  cases h1 : Nat.beq f m.f with
  | false => rw [h1] at h; cases h
  | true =>
    rw [h1] at h
    cases h2 : Nat.beq st.next m.st.next with
    | false => rw [h2] at h; cases h
    | true =>
      rw [h2] at h
      have h : (eqLW (eqAV 6) as m.as && eqSt st m.st) = true := h
      simp only [Bool.and_eq_true] at h
      exact ⟨nat_tells _ _ h1, eqLW_tells (eqAV_tells 6) _ _ h.1, eqSt_tells _ _ h.2⟩

theorem findM_spec {f : FuncId} {as : List AV} {st : St} : ∀ {ms : List Memo} {m : Memo}, findM f as st ms = some m → m ∈ ms ∧ f = m.f ∧ as = m.as ∧ st = m.st
  | [], m, h => by cases h
  | x :: ms, m, h => by
    have h : @Bool.rec (fun _ => Option Memo) (findM f as st ms) (some x) (hitM f as st x) = some m := h
    cases hx : hitM f as st x with
    | true =>
      rw [hx] at h; cases h
      exact ⟨List.mem_cons_self .., hitM_spec hx⟩
    | false =>
      rw [hx] at h
      obtain ⟨h1, h2⟩ := findM_spec h
      exact ⟨List.mem_cons_of_mem _ h1, h2⟩

section
variable {P : Program} {S : Self}

theorem withMemo_ok {ms : List Memo} (hm : ∀ m ∈ ms, MemoOK P m) (hS : SelfOK P S) : SelfOK P (withMemo ms S) := by
  refine ⟨hS.ng, hS.mixed, ⟨fun f as st => ?_, hS.up.code, hS.up.dcall⟩, fun {E w st st' f as us v} hr hc h hn => ?_, fun {E w st nt c t a b} k hb hr ht hm hl => hS.code k hb hr ht hm hl, hS.dcall⟩
  · show Up st (orM (fun _ => S.call f as st) (findM f as st ms))
    cases hf : findM f as st ms with
    | none => exact hS.up.call f as st
    | some m =>
      obtain ⟨h1, rfl, rfl, rfl⟩ := findM_spec hf
      intro v s e
      cases e
      exact (hm m h1).1
  · have h : orM (fun _ => S.call f as st) (findM f as st ms) = some (v, st') := h
    cases hf : findM f as st ms with
    | none => rw [hf] at h; exact hS.call hr hc h hn
    | some m =>
      rw [hf] at h
      cases h
      obtain ⟨h1, rfl, rfl, rfl⟩ := findM_spec hf
      exact (hm m h1).2 hr hc hn

def withTrueO (g : Option FuncId) (S : Self) : Self := match g with | some g => withTrue g S | none => S
/-- Calls at every depth, where such results are known and a closed function is known to answer true. -/
def selfM (P : Program) (g : Option FuncId) (ms : List Memo) (n : Nat) : Self :=
  @Nat.rec (fun _ => Self) ⟨fun _ _ _ => none, fun _ _ _ _ => .no, fun _ _ _ => none⟩ (fun n s => withMemo ms (withTrueO g ⟨evBody P s n, fun nt c t st => evC c ⟨P, s, true, nt, n⟩ t st, evBody P s n⟩)) n

theorem self_step (hS : SelfOK P S) (n : Nat) : SelfOK P ⟨evBody P S n, fun nt c t st => evC c ⟨P, S, true, nt, n⟩ t st, evBody P S n⟩ :=
  ⟨hS.ng, hS.mixed, ⟨fun _ _ _ => up_evBody hS.up, fun nt c t st => upo_evC c ⟨P, S, true, nt, n⟩ hS.up t st, fun _ _ _ => up_evBody hS.up⟩, fun hr hc h hn => body_spec hS hr hc h hn, fun {E w st nt c t a b} k hb hr ht hm hl =>
    code_spec (P := P) (n0 := 0) c ⟨P, S, true, nt, n⟩ rfl hS k hb.symm hr ht hm (Nat.zero_le _) hl, fun hr hc h hn => body_specK hS hr hc h hn⟩

/-- What is known of a closed function. -/
def SaysTrue (P : Program) (g : FuncId) : Prop := ∀ w : World, ∃ w', CallsTo P g #[] w w' (.bool true) ∧ w'.os = w.os ∧ w'.output = w.output ∧ w.heap.size ≤ w'.heap.size ∧ ∀ i, i < w.heap.size → w'.heap[i]? = w.heap[i]?

theorem withTrueO_ok (hS : SelfOK P S) {g : Option FuncId} (hg : ∀ f, g = some f → SaysTrue P f) : SelfOK P (withTrueO g S) := by
  cases g with
  | none => exact hS
  | some f => exact withTrue_ok hS (hg f rfl)

theorem selfM_ok (hng : NoNG P) (hmx : P.follows .mixedOrders = true) {g : Option FuncId} (hg : ∀ f, g = some f → SaysTrue P f) {ms : List Memo} (hm : ∀ m ∈ ms, MemoOK P m) : ∀ n, SelfOK P (selfM P g ms n)
  | 0 => ⟨hng, hmx, ⟨fun _ _ _ => up_none, fun _ _ _ _ => upo_no, fun _ _ _ => up_none⟩, fun _ _ h _ => (by cases h), fun _ _ _ _ _ _ => trivial, fun _ _ h _ => (by cases h)⟩
  | n + 1 => withMemo_ok hm (withTrueO_ok (self_step (selfM_ok hng hmx hg hm n) n) hg)

/-- An entry of what is known: by a run. -/
theorem memo_of (hS : SelfOK P S) {m : Memo} {n : Nat} {rs gs : List Nat} (h : keepR rs gs (evBody P S n m.f m.as m.st) = some (m.v, m.st')) : MemoOK P m := by
  cases he : evBody P S n m.f m.as m.st with
  | none => rw [he] at h; cases h
  | some p =>
    obtain ⟨v, st1⟩ := p
    rw [he] at h
    have h : some (v, keepS rs gs st1) = some (m.v, m.st') := h
    simp only [Option.some.injEq, Prod.mk.injEq] at h
    obtain ⟨hv, hs⟩ := h
    have hn1 : st1.next = m.st'.next := by rw [← hs]; rfl
    refine ⟨?_, fun {E w us} hr hc hn => ?_⟩
    · rw [← hn1]; exact up_evBody hS.up _ _ he
    · obtain ⟨E', w', cv, h1, h2, h3⟩ := body_spec hS hr hc he (by rw [hn1]; exact hn)
      have s3 := keepS_step h2.rel rs gs
      rw [hs] at s3
      exact ⟨E', w', cv, h1, ⟨h2.toStep.trans s3, h2.os, h2.out⟩, hv ▸ h3⟩

def eqRes (v : AV) (st : St) : Res → Bool
  | some (v', st') => eqAV 6 v' v && eqSt st' st
  | none => false
/-- The same, asked by true. -/
theorem memo_is (hS : SelfOK P S) {m : Memo} {n : Nat} (rs gs : List Nat) (h : eqRes m.v m.st' (keepR rs gs (evBody P S n m.f m.as m.st)) = true) : MemoOK P m := by
  refine memo_of (rs := rs) (gs := gs) (n := n) hS ?_
  cases hk : keepR rs gs (evBody P S n m.f m.as m.st) with
  | none => rw [hk] at h; cases h
  | some p =>
    obtain ⟨v, s⟩ := p
    rw [hk] at h
    have h : (eqAV 6 v m.v && eqSt s m.st') = true := h
    simp only [Bool.and_eq_true] at h
    rw [eqAV_tells 6 _ _ h.1, eqSt_tells _ _ h.2]

/-- A closed function answers true, where such results are known. -/
def trueM (P : Program) (g : Option FuncId) (ms : List Memo) (n : Nat) (f : FuncId) : Bool :=
  match evBody P (selfM P g ms n) n f [] st0 with
  | some (v, _) => match v.asB with
    | some b => b
    | none => false
  | none => false

theorem says_true (hng : NoNG P) (hmx : P.follows .mixedOrders = true) {n : Nat} {f : FuncId} (h : saysTrue P n f = true) : SaysTrue P f := fun w => saysTrue_calls hng hmx h w

theorem trueM_says (hng : NoNG P) (hmx : P.follows .mixedOrders = true) {g : Option FuncId} (hg : ∀ f, g = some f → SaysTrue P f) {ms : List Memo} (hm : ∀ m ∈ ms, MemoOK P m) {n : Nat} {f : FuncId} (h : trueM P g ms n f = true) : SaysTrue P f := by
  intro w
  unfold trueM at h
  split at h
  case h_2 => cases h
  rename_i v st' he
  split at h
  case h_2 => cases h
  rename_i b hb
  subst h
  have hv := AV.asB_some hb
  subst hv
  obtain ⟨E', w', cv, h1, h2, h3⟩ := body_spec (selfM_ok hng hmx hg hm n) (E := ⟨fun _ => none, fun _ => none, st'.next⟩) (w := w) (us := []) (st0_rel w.heap st'.next) .nil he (Nat.le_refl _)
  cases h3
  refine ⟨w', h1, h2.os, h2.out, h2.fr.size, fun i hi => h2.fr.keep i hi ?_⟩
  rintro ⟨r, row, B, ha, _, _⟩
  have := Rel.alive_get ha
  rw [st0_get] at this; cases this

end

end

end Go.Ev
