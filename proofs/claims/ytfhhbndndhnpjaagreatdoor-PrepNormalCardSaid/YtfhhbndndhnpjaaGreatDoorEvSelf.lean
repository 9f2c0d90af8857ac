/- What is said of calls and of code: the machine goes where the abstract run goes. -/
import Derived.Test.YtfhhbndndhnpjaaGreatDoorEvStep
import Derived.Test.YtfhhbndndhnpjaaGreatDoorEvMono
import Derived.Test.YtfhhbndndhnpjaaGreatDoorEvSt
namespace Go.Ev

noncomputable section

/-- A call that returns. -/
def CallsTo (P : Program) (f : FuncId) (args : Array Value) (w w' : World) (v : Value) : Prop :=
  ∀ cs, ∃ fr, Steps P (lone (Frame.enter P f args .normal) cs w) (lone fr cs w') ∧ fr.fn = f ∧ fr.leaving P w' (.returned v)

/-- The deferred calls of loops over functions: marks alone, none deferred a thing. -/
def Marks (n0 : Nat) (E : Env) (H : Array Obj) (st : St) (ds : List Deferred) : Prop :=
  ds.Pairwise (· ≠ ·) ∧ ∀ d ∈ ds, ∃ r, n0 ≤ r ∧ d = { target := .collected r, args := #[] } ∧ H[r]? = some (.deferred (some [])) ∧ ¬ Owned E st r

theorem Marks.step {n0 : Nat} {E E' : Env} {H H' : Array Obj} {st st' : St} {ds : List Deferred} (h : Marks n0 E H st ds) (hs : Step E E' H H' st st') : Marks n0 E' H' st' ds := by
  refine ⟨h.1, fun d hd => ?_⟩
  obtain ⟨r, h0, rfl, hr, hn⟩ := h.2 d hd
  have hlt : r < H.size := (Array.getElem?_eq_some_iff.1 hr).1
  exact ⟨r, h0, rfl, by rw [hs.fr.keep r hlt hn]; exact hr, hs.unowned hlt hn⟩

/-- Where code comes to, whatever the callers are. -/
def Arr (P : Program) (n0 : Nat) (E : Env) (nt : Nat) (b : Frame) (w : World) (st : St) (m : List Frame → Machine) (k : List Item) : Out → Prop
  | .nx t st' => ∃ E' a' w', StepW E E' w w' st st' ∧ ConcT E' nt t a'.tmps ∧ Marks n0 E' w'.heap st' a'.defers ∧ ∀ cs, Steps P (m cs) (lone (b.atR a' k) cs w')
  | .ex id t st' => ∃ E' a' w', StepW E E' w w' st st' ∧ ConcT E' nt t a'.tmps ∧ Marks n0 E' w'.heap st' a'.defers ∧ ∀ k', exitTo id k = some k' → ∀ cs, Steps P (m cs) (lone (b.atR a' k') cs w')
  | .rt t st' => b.roundOf = none → ∃ E' a' w' todo, StepW E E' w w' st st' ∧ ConcT E' nt t a'.tmps ∧ Marks n0 E' w'.heap st' a'.defers ∧ ∀ cs, Steps P (m cs) (lone { b.atR a' todo with mode := .returning } cs w')
  | .no => True

/-- No function of the program is the runtime's count of goroutines. -/
def NoNG (P : Program) : Prop := ∀ (f : Nat) (fn : Func), P.funcs[f]? = some fn → (fn.name == "runtime.NumGoroutine") = false

end

end Go.Ev
