/- What is said of calls and of code: the machine goes where the abstract run goes. -/
import Derived.Test.YtgjbgebejiapmaaGreatDoorEvStep
import Derived.Test.YtgjbgebejiapmaaGreatDoorEvMono
import Derived.Test.YtgjbgebejiapmaaGreatDoorEvSt
import Derived.Defers
namespace Go.Ev

noncomputable section

/-- A call that returns, of such a kind. -/
def CallsK (P : Program) (kind : CallKind) (f : FuncId) (args : Array Value) (w w' : World) (v : Value) : Prop :=
  ∀ cs, ∃ fr, Steps P (lone (Frame.enter P f args kind) cs w) (lone fr cs w') ∧ fr.fn = f ∧ fr.kind = kind ∧ fr.going P w' (.returned v)

/-- A call that returns. -/
def CallsTo (P : Program) (f : FuncId) (args : Array Value) (w w' : World) (v : Value) : Prop :=
  ∀ cs, ∃ fr, Steps P (lone (Frame.enter P f args .normal) cs w) (lone fr cs w') ∧ fr.fn = f ∧ fr.leaving P w' (.returned v)

theorem CallsK.to {P : Program} {f : FuncId} {args : Array Value} {w w' : World} {v : Value} (h : CallsK P .normal f args w w' v) : CallsTo P f args w w' v := by
  intro cs
  obtain ⟨fr, h1, h2, h3, h4, h5, h6⟩ := h cs
  exact ⟨fr, h1, h2, h4, h5, h3, h6⟩

/-- The deferred calls of loops over functions: marks alone, none deferred a thing. -/
def Marks0 (n0 : Nat) (E : Env) (H : Array Obj) (st : St) (ds : List Deferred) : Prop :=
  ds.Pairwise (· ≠ ·) ∧ ∀ d ∈ ds, ∃ r, n0 ≤ r ∧ d = { target := .collected r, args := #[] } ∧ H[r]? = some (.deferred (some [])) ∧ ¬ Owned E st r

theorem Marks0.step {n0 : Nat} {E E' : Env} {H H' : Array Obj} {st st' : St} {ds : List Deferred} (h : Marks0 n0 E H st ds) (hs : Step E E' H H' st st') : Marks0 n0 E' H' st' ds := by
  refine ⟨h.1, fun d hd => ?_⟩
  obtain ⟨r, h0, rfl, hr, hn⟩ := h.2 d hd
  have hlt : r < H.size := (Array.getElem?_eq_some_iff.1 hr).1
  exact ⟨r, h0, rfl, by rw [hs.fr.keep r hlt hn]; exact hr, hs.unowned hlt hn⟩

/-- Marks, ahead of what was deferred before. -/
def Marks (n0 : Nat) (D : List Deferred) (E : Env) (H : Array Obj) (st : St) (ds : List Deferred) : Prop :=
  ∃ ms, ds = ms ++ D ∧ Marks0 n0 E H st ms

theorem Marks.step {n0 : Nat} {D : List Deferred} {E E' : Env} {H H' : Array Obj} {st st' : St} {ds : List Deferred} (h : Marks n0 D E H st ds) (hs : Step E E' H H' st st') : Marks n0 D E' H' st' ds := by
  obtain ⟨ms, h1, h2⟩ := h
  exact ⟨ms, h1, h2.step hs⟩

theorem Marks.nil {n0 : Nat} {D : List Deferred} {E : Env} {H : Array Obj} {st : St} : Marks n0 D E H st D := ⟨[], rfl, List.Pairwise.nil, fun _ h => by cases h⟩

/-- Where code comes to, whatever the callers are. -/
def Arr (P : Program) (n0 : Nat) (E : Env) (nt : Nat) (b : Frame) (w : World) (st : St) (m : List Frame → Machine) (k : List Item) : Out → Prop
  | .nx t st' => ∃ E' a' w', StepW E E' w w' st st' ∧ ConcT E' nt t a'.tmps ∧ Marks n0 b.defers E' w'.heap st' a'.defers ∧ ∀ cs, Steps P (m cs) (lone (b.atR a' k) cs w')
  | .ex id t st' => ∃ E' a' w', StepW E E' w w' st st' ∧ ConcT E' nt t a'.tmps ∧ Marks n0 b.defers E' w'.heap st' a'.defers ∧ ∀ k', exitTo id k = some k' → ∀ cs, Steps P (m cs) (lone (b.atR a' k') cs w')
  | .rt t st' => b.roundOf = none → ∃ E' a' w' todo, StepW E E' w w' st st' ∧ ConcT E' nt t a'.tmps ∧ Marks n0 b.defers E' w'.heap st' a'.defers ∧ ∀ cs, Steps P (m cs) (lone { b.atR a' todo with mode := .returning } cs w')
  | .no => True

/-- No function of the program is the runtime's count of goroutines. -/
def NoNG (P : Program) : Prop := ∀ (f : Nat) (fn : Func), P.funcs[f]? = some fn → (fn.name == "runtime.NumGoroutine") = false

end

end Go.Ev
