/- What operations of each kind ask of the memory. -/
import Derived.Test.YtgjbgebejiapmaaGreatDoorEvReg
namespace Go.Ev

noncomputable section

section
variable {P : Program} {S : Self} {w : World} {E : Env} {st : St}

/-- An operation that asks nothing of the memory. -/
theorem kind0 {t : Tr AV} {o : Oper} (hk : kind o.op = 0) : ∃ f : Option AV, ∀ st, evOp P S t st o = give st f := by
  unfold evOp
  cases hop : o.op <;> rw [hop] at hk <;> first | (simp only [kind] at hk; omega; done) | skip
  case move x => exact ⟨some (evO t x), fun st => rfl⟩
  case assign x => exact ⟨some (evO t x), fun st => rfl⟩
  case pick c a b =>
    show ∃ f : Option AV, ∀ st, pickB (evO t a) (evO t b) st (evO t c).asB = give st f
    cases (evO t c).asB with
    | none => exact ⟨none, fun _ => rfl⟩
    | some x => cases x; exact ⟨some (evO t b), fun _ => rfl⟩; exact ⟨some (evO t a), fun _ => rfl⟩
  case build ty ps =>
    show ∃ f : Option AV, ∀ st, @Bool.rec (fun _ => Res) none (opBuild1 P ty (vals t ps.toList) st) (wfTy P ty) = give st f
    have hf : ∀ pl z, ∃ f : Option AV, ∀ st, fillAg st pl (vals t ps.toList) z = give st f := by
      intro pl z
      cases z with
      | none => exact ⟨none, fun _ => rfl⟩
      | some z =>
        cases hfl : fill pl z (vals t ps.toList) with
        | none => exact ⟨none, fun _ => by simp [fillAg, hfl, agSt, give]⟩
        | some l => exact ⟨some (.ag l), fun _ => by simp [fillAg, hfl, agSt, give]⟩
    cases wfTy P ty with
    | false => exact ⟨none, fun _ => rfl⟩
    | true =>
      show ∃ f : Option AV, ∀ st, opBuild1 P ty (vals t ps.toList) st = give st f
      unfold opBuild1
      cases hu : P.underlying ty with
      | none => exact ⟨none, fun _ => rfl⟩
      | some d => cases d <;> first | exact hf _ _ | exact ⟨none, fun _ => rfl⟩
  case nilCheck x =>
    show ∃ f : Option AV, ∀ st, notNil st (evO t x) = give st f
    cases evO t x <;> first
      | exact ⟨none, fun _ => rfl⟩
      | exact ⟨some _, fun _ => rfl⟩
      | skip
    rename_i g a b
    cases g <;> first | exact ⟨none, fun _ => rfl⟩ | exact ⟨some _, fun _ => rfl⟩
  case binOp => exact ⟨_, fun st => rfl⟩
  case unOp => exact ⟨_, fun st => rfl⟩
  case makeInterface xt x =>
    show ∃ f : Option AV, ∀ st, opMakeInterface xt x P S t st = give st f
    unfold opMakeInterface
    cases hu : P.underlying xt with
    | none => exact ⟨none, fun _ => rfl⟩
    | some d => cases d <;> first | exact ⟨none, fun _ => rfl⟩ | exact ⟨some _, fun _ => rfl⟩
  case makeFunc fn a b =>
    show ∃ f : Option AV, ∀ st, opMakeFunc fn a b P S t st = give st f
    unfold opMakeFunc
    cases notY fn with
    | false => exact ⟨none, fun _ => rfl⟩
    | true => exact ⟨some _, fun _ => rfl⟩
  case fieldAddr s x n =>
    show ∃ f : Option AV, ∀ st, opFieldAddr s x n P S t st = give st f
    unfold opFieldAddr
    cases fieldOff P s n with
    | none => exact ⟨none, fun _ => rfl⟩
    | some k =>
      simp only [fieldAt]
      cases (evO t x).asP with
      | some p => exact ⟨some _, fun _ => rfl⟩
      | none => cases (evO t x).asRp with
        | none => exact ⟨none, fun _ => rfl⟩
        | some c => exact ⟨some _, fun _ => rfl⟩
  case field s x n =>
    show ∃ f : Option AV, ∀ st, opField s x n P S t st = give st f
    unfold opField
    split
    · exact ⟨_, fun st => rfl⟩
    · exact ⟨none, fun st => rfl⟩
  case indexAddr => exact ⟨_, fun st => rfl⟩
  case index => exact ⟨_, fun st => rfl⟩
  case extract x n =>
    show ∃ f : Option AV, ∀ st, nth n st (evO t x) = give st f
    cases evO t x <;> first | exact ⟨none, fun _ => rfl⟩ | exact ⟨_, fun _ => rfl⟩
  case call c =>
    exfalso
    obtain ⟨callee, as, ts⟩ := c
    cases callee <;> first | (simp [kind] at hk; done) | skip
    rename_i bb
    cases bb <;> simp [kind] at hk

/-- More stands there. -/
structure Sub (X Y : St) : Prop where
  row : ∀ r x, X.get r = some x → Y.get r = some x
  live : ∀ g al, X.live.get g = some al → Y.live.get g = some al

theorem Sub.refl (X : St) : Sub X X := ⟨fun _ _ h => h, fun _ _ h => h⟩

theorem Sub.ce {X Y : St} (h : Sub X Y) {r : Nat} {p : List AV × Nat × List Nat} (hp : X.ce r = some p) : Y.ce r = some p := by
  unfold St.ce at hp ⊢
  cases hg : X.get r with
  | none => rw [hg] at hp; cases hp
  | some row =>
    rw [hg] at hp
    rw [h.row r row hg]
    cases row with
    | ce l g =>
      simp only at hp ⊢
      cases hl : X.live.get g with
      | none => rw [hl] at hp; cases hp
      | some al => rw [hl] at hp; rw [h.live g al hl]; exact hp
    | _ => cases hp

theorem Sub.sliceR {X Y : St} (h : Sub X Y) {t : TypeId} {x v : AV} {lo hi mx : Option AV} (hp : sliceR P X t x lo hi mx = some v) : Ev.sliceR P Y t x lo hi mx = some v := by
  unfold Ev.sliceR at hp ⊢
  split at hp
  · rename_i v' hv'
    exact hp
  · rename_i hno
    unfold sliceRoom at hp ⊢
    split at hp
    · rename_i r o n z
      cases hce : X.ce r with
      | some lga => rw [hce] at hp; rw [h.ce hce]; exact hp
      | none => rw [hce] at hp; cases hp
    · cases hp

theorem Sub.rd {X Y : St} (h : Sub X Y) {r o n : Nat} {l : List AV} (hp : rd X r o n = some l) : rd Y r o n = some l := by
  unfold Ev.rd at hp ⊢
  cases hc : X.ce r with
  | none => rw [hc] at hp; cases hp
  | some p => rw [hc] at hp; rw [h.ce hc]; exact hp

theorem Sub.loadAt {X Y : St} (h : Sub X Y) {t : TypeId} {a v : AV} (hp : loadAt P t X a = some v) : Ev.loadAt P t Y a = some v := by
  unfold Ev.loadAt at hp ⊢
  cases hi : hasInfo P t with
  | false => rw [hi] at hp; cases hp
  | true =>
    rw [hi] at hp
    simp only at hp ⊢
    cases ha : a.asP with
    | none => rw [ha] at hp; exact hp
    | some ro =>
      obtain ⟨r, o⟩ := ro
      rw [ha] at hp
      simp only at hp ⊢
      cases hg : isAg P t with
      | true =>
        rw [hg] at hp
        simp only at hp ⊢
        cases hr : Ev.rd X r o (szOf P t) with
        | none => rw [hr] at hp; cases hp
        | some l => rw [hr] at hp; rw [h.rd hr]; exact hp
      | false =>
        rw [hg] at hp
        simp only at hp ⊢
        cases hr : Ev.rd X r o 1 with
        | none => rw [hr] at hp; cases hp
        | some l => rw [hr] at hp; rw [h.rd hr]; exact hp

theorem Sub.lookup {X Y : St} (h : Sub X Y) {t : TypeId} {m k v : AV} {ok : Bool} (hp : lookup P t X m k ok = some v) : Ev.lookup P t Y m k ok = some v := by
  unfold Ev.lookup at hp ⊢
  cases hu : P.underlying t with
  | none => rw [hu] at hp; cases hp
  | some d =>
    rw [hu] at hp
    cases d <;> first | (cases hp; done) | skip
    simp only at hp ⊢
    split at hp
    · cases hp
    · rename_i z hz
      cases hf : keyFits P t k with
      | false => rw [hf] at hp; cases hp
      | true =>
        rw [hf] at hp
        simp only at hp ⊢
        split at hp
        · exact hp
        · rename_i r
          split at hp
          · rename_i es c hg
            rw [h.row _ _ hg]; exact hp
          · rename_i es hg
            rw [h.row _ _ hg]; exact hp
          · cases hp
        · cases hp

theorem Sub.len1 {X Y : St} (h : Sub X Y) {ts : List TypeId} {x v : AV} {X' : St} (hp : bLen1 P X ts x = some (v, X')) : bLen1 P Y ts x = some (v, Y) := by
  have i64 : ∀ {o : Option Nat}, int64 X o = some (v, X') → int64 Y o = some (v, Y) := by
    intro o ho
    cases o with
    | none => cases ho
    | some n => cases ho; rfl
  cases ts with
  | nil => cases hp
  | cons t r =>
    unfold bLen1 at hp ⊢
    simp only at hp ⊢
    cases hu : P.underlying t with
    | none => rw [hu] at hp; cases hp
    | some d =>
      rw [hu] at hp
      cases d <;> first | (cases hp; done) | skip
      case string =>
        simp only at hp ⊢
        cases ht : isText x with
        | false => rw [ht] at hp; cases hp
        | true => rw [ht] at hp; exact i64 hp
      case slice e =>
        simp only at hp ⊢
        cases ht : isText x with
        | false => rw [ht] at hp; exact i64 hp
        | true => rw [ht] at hp; cases hp
      case map k e =>
        replace hp : lenMap X x = some (v, X') := hp
        show lenMap Y x = some (v, Y)
        unfold lenMap at hp ⊢
        cases x <;> first | (cases hp; done) | skip
        case m r =>
          simp only at hp ⊢
          cases hg : X.get r with
          | none => rw [hg] at hp; cases hp
          | some row =>
            rw [hg] at hp
            rw [h.row _ _ hg]
            cases row <;> first | (cases hp; done) | (cases hp; rfl)
        case mn => cases hp; rfl
      case chan dd e =>
        replace hp : lenChan X x = some (v, X') := hp
        show lenChan Y x = some (v, Y)
        unfold lenChan at hp ⊢
        cases x <;> first | (cases hp; done) | skip
        case c r =>
          simp only at hp ⊢
          cases hg : X.get r with
          | none => rw [hg] at hp; cases hp
          | some row =>
            rw [hg] at hp
            rw [h.row _ _ hg]
            cases row <;> first | (cases hp; done) | (cases hp; rfl)
        case cn => cases hp; rfl
      case array n e => exact i64 hp
      case pointer e =>
        simp only at hp ⊢
        cases hu' : P.underlying e with
        | none => rw [hu'] at hp; cases hp
        | some d' =>
          rw [hu'] at hp
          cases d' <;> first | (cases hp; done) | exact i64 hp

/-- An operation that looks, where more stands. -/
theorem kind1 {t : Tr AV} {o : Oper} (hk : kind o.op = 1) {X Y X' : St} (h : Sub X Y) {v : AV} (he : evOp P S t X o = some (v, X')) : evOp P S t Y o = some (v, Y) := by
  unfold evOp at he ⊢
  have gv : ∀ {a b : Option AV}, give X a = some (v, X') → (∀ v, a = some v → b = some v) → give Y b = some (v, Y) := by
    intro a b ha hab
    obtain ⟨h1, _⟩ := give_spec ha
    rw [hab v h1]; rfl
  cases hop : o.op <;> rw [hop] at hk he <;> first | (simp only [kind] at hk; omega; done) | skip
  case load ty a => exact gv (he : give X (loadAt P ty X (evO t a)) = _) fun v hv => h.loadAt hv
  case lookup ty m k ok => exact gv (he : give X (lookup P ty X (evO t m) (evO t k) ok) = _) fun v hv => h.lookup hv
  case slice ty x lo hi mx => exact gv (he : give X (sliceR P X ty (evO t x) (lo.map (evO t)) (hi.map (evO t)) (mx.map (evO t))) = _) fun v hv => h.sliceR hv
  case call c =>
    obtain ⟨callee, as, ts⟩ := c
    cases callee <;> first | (simp [kind] at hk; done) | skip
    rename_i bb
    cases bb <;> first | (simp [kind] at hk; done) | skip
    have he : bLen P X ts.toList (args t as.toList) = some (v, X') := he
    show bLen P Y ts.toList (args t as.toList) = some (v, Y)
    unfold bLen at he ⊢
    split at he
    · exact h.len1 he
    · cases he

/-- What makes memory. -/
theorem kind2 {t : Tr AV} {ρ : Operand → Value} (hρ : ∀ x, Conc E (evO t x) (ρ x)) {o : Oper} (hk : kind o.op = 2) {v : AV} {st' : St} (he : evOp P S t st o = some (v, st')) :
    ∃ l, st' = st.newCe l ∧ ∃ z ob n, (execOp ρ o).run P w = .ok (.value z) { w with heap := w.heap.push ob } ∧ (∀ g, RowOK E (w.heap.push ob) ⟨w.heap.size, 0, n⟩ (.ce l g)) ∧
      ∀ F, F.phi st.next = some ⟨w.heap.size, 0, n⟩ → Conc F v z := by
  have row : ∀ {l : List AV} {us : Array Value} (ty : TypeId), ConcL E l us.toList → ∀ g, RowOK E (w.heap.push (.cells us ty)) ⟨w.heap.size, 0, us.size⟩ (.ce l g) := by
    intro l us ty hc g
    have hlen := hc.length
    refine ⟨us, ty, (0, 0), by simp, .inl rfl, rfl, by simp at hlen ⊢; omega, ?_⟩
    rw [List.drop_zero, List.take_of_length_le (by simp at hlen ⊢; omega)]
    exact hc
  unfold evOp at he
  cases hop : o.op <;> rw [hop] at hk he <;> first | (simp only [kind] at hk; omega; done) | skip
  case alloc e =>
    have he : allocC st (zeroC P e) = some (v, st') := he
    cases hz : zeroC P e with
    | none => rw [hz] at he; cases he
    | some l =>
      rw [hz] at he; cases he
      obtain ⟨z, g1, g2, g3, g4⟩ := zeroC_spec (E := E) hz
      refine ⟨l, rfl, .pointer (some ⟨w.heap.size, 0, none⟩), .cells z.cells e, z.cells.size, ?_, row e g2, fun F hF => ?_⟩
      · simp only [execOp, hop, Instr.alloc, newVar, Sem.run_bind, g1, Result.andThen_ok, newRow, run_newObj, Sem.run_pure]
      · have := Conc.p (E := F) st.next 0 _ hF
        simpa using this
  case box e x =>
    have he : allocC st (evO t x).cells = some (v, st') := he
    cases hz : (evO t x).cells with
    | none => rw [hz] at he; cases he
    | some l =>
      rw [hz] at he; cases he
      have g2 := cells_conc (hρ x) hz
      refine ⟨l, rfl, .pointer (some ⟨w.heap.size, 0, none⟩), .cells (ρ x).cells e, (ρ x).cells.size, ?_, row e g2, fun F hF => ?_⟩
      · simp only [execOp, hop, Instr.box, newVar, Sem.run_bind, Result.andThen_ok, newRow, run_newObj, Sem.run_pure]
      · have := Conc.p (E := F) st.next 0 _ hF
        simpa using this
  case buildSlice ty len parts =>
    have he : opBuildSlice ty len parts P S t st = some (v, st') := he
    unfold opBuildSlice at he
    split at he
    · cases he
    · rename_i e hel
      have hu := elOf_spec hel
      cases hz : zeroC P e with
      | none => rw [hz] at he; cases he
      | some z =>
        rw [hz] at he
        obtain ⟨hle, he⟩ := brec he
        obtain ⟨zero, g1, g2⟩ := zeros_run (E := E) hz len
        have hi : hasInfo P e = true := by obtain ⟨_, _, _, g3, _⟩ := zeroC_spec (E := E) hz; exact g3
        cases hf : fill (placeE (szOf P e)) (rep len z) (vals t parts.toList) with
        | none => rw [hf] at he; cases he
        | some l' =>
          rw [hf] at he
          obtain ⟨us', h1, h2⟩ := fill_spec hρ parts.toList _ l' _ hf g2
          cases he
          refine ⟨l', rfl, .slice (some ⟨w.heap.size, 0, none⟩) len len, .cells us' e, us'.size, ?_, row e h2, fun F hF => .slk st.next 0 len (szOf P e) len _ (Nat.le_refl _) (.inr ⟨_, hF, by simp⟩)⟩
          have hle' : ¬ len * szOf P e > 2 ^ 24 := by have := Nat.le_of_ble_eq_true hle; omega
          have h1' : Instr.fill (fun i => some (i * szOf P e, szOf P e)) ((Array.range (len * szOf P e)).map (zero[· % zero.size]!)) (parts.map fun (i, x) => (i, ρ x)).toList = some us' := by
            have : (fun i => some (i * szOf P e, szOf P e)) = placeE (szOf P e) := rfl
            rw [this]; simpa using h1
          have key : (Instr.buildSlice ty len (parts.map fun (i, x) => (i, ρ x))).run P w = .ok (.slice (some ⟨w.heap.size, 0, none⟩) len len) { w with heap := w.heap.push (.cells us' e) } := by
            simp only [Instr.buildSlice, Sem.run_bind, run_under hu, Result.andThen_ok, run_size hi, if_neg hle', Sem.run_pure]
            refine (g1 (fun zero => _) w).trans ?_
            rw [h1']
            simp only [Sem.run_bind, newRow, run_newObj, Result.andThen_ok, Sem.run_pure]
          simp only [execOp, hop, Sem.run_bind, key, Result.andThen_ok, Sem.run_pure]
  case call c =>
    exfalso
    obtain ⟨callee, as, ts⟩ := c
    cases callee <;> first | (simp [kind] at hk; done) | skip
    rename_i bb
    cases bb <;> simp [kind] at hk

end

end

end Go.Ev
