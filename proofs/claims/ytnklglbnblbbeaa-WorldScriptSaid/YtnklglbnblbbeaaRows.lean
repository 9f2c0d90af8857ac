/-
  No cell of these rows narrows 'for every input' (looked for: loops, veiled, ifaces, maps, wideKeys, modest, calm, conditions, laid).
  DERIVED. THE GIVEN ROWS OF THIS SEAT. 4 by the template 'for every input the law returns true; each argument reads behind the call as it read before'; 0 by the template 'total and deterministic' (their statements: YtnklglbnblbbeaaTotals.lean).
  GIVEN WITH THE SEED: the statements are not yours to turn. If you find one false, say at which input.
  Laid BY PROGRAM, IN A SANDBOX (cutbox-rows.mjs): the forced cells as the released guide's own fill.sh prints them over the translation 67cca5d044a5d82c… (all of the seat's roots in one cut). By AI agents, Wed Nov 11 2026. No macro, syntax, notation, axiom, sorry.
-/
import Derived.Test.YtnklglbnblbbeaaChecked
import GoSem.Claim
import GoSem.ClaimJoined
import GoSem.ClaimMapViews
import Derived.JoinedTies
import Derived.KernelRfl
namespace Go.Proofs.Ytnklglbnblbbeaa
/- THE CELL 'sum', in the pinned program and in every row, IS THE sha256 OF THE DUMP (.gsa) THAT YtnklglbnblbbeaaProg.lean LOADS. Nothing in Lean hashes anything: it is a label: what it is worth is what the hold of that sum in a sandbox is worth. -/
noncomputable def Try.pinned : Pinned := { name := "ytnklglbnblbbeaa", sum := "67cca5d044a5d82c89365f149b1b7b87090bb4a4fbde7c18f6dd48668e05c43c", checked := Try.checked }
namespace Rows
def none {H : Type} : Left H := { results := [], args := [] }

/-- 'thunkmilllaw14.WorldChunks': WHATEVER THE INPUT: true; the input reads as it did. -/
def worldChunksSpec : ChangeSpec := { name := "worldChunks", fn := fun _ => fun
  | [d] => { results := [.lit (.bool true)], args := [d] }
  | _ => none }
def worldChunksRow : OpenClaim := { program := "ytnklglbnblbbeaa", sum := "67cca5d044a5d82c89365f149b1b7b87090bb4a4fbde7c18f6dd48668e05c43c", func := "thunkmill/thunkmilllaw14.WorldChunks", spec := "worldChunks", apart := false }
def WorldChunksSaid : Prop := worldChunksRow.holds Try.pinned (OpenSpec.ofChange worldChunksSpec)

/-- ITS FALSE NEIGHBOUR: 'it returns false'. Refute it at one input. -/
def worldChunksWrong : ChangeSpec := { name := "worldChunks", fn := fun _ => fun
  | [d] => { results := [.lit (.bool false)], args := [d] }
  | _ => none }
def WorldChunksWrongFalsely : Prop := worldChunksRow.holds Try.pinned (OpenSpec.ofChange worldChunksWrong)

/-- 'thunkmilllaw14.WorldNames': WHATEVER THE INPUT: true; the input reads as it did. -/
def worldNamesSpec : ChangeSpec := { name := "worldNames", fn := fun _ => fun
  | [] => { results := [.lit (.bool true)], args := [] }
  | _ => none }
def worldNamesRow : OpenClaim := { program := "ytnklglbnblbbeaa", sum := "67cca5d044a5d82c89365f149b1b7b87090bb4a4fbde7c18f6dd48668e05c43c", func := "thunkmill/thunkmilllaw14.WorldNames", spec := "worldNames", apart := false }
def WorldNamesSaid : Prop := worldNamesRow.holds Try.pinned (OpenSpec.ofChange worldNamesSpec)

/-- ITS FALSE NEIGHBOUR: 'it returns false'. Refute it at one input. -/
def worldNamesWrong : ChangeSpec := { name := "worldNames", fn := fun _ => fun
  | [] => { results := [.lit (.bool false)], args := [] }
  | _ => none }
def WorldNamesWrongFalsely : Prop := worldNamesRow.holds Try.pinned (OpenSpec.ofChange worldNamesWrong)

/-- 'thunkmilllaw14.WorldScript': WHATEVER THE INPUT: true; the input reads as it did. -/
def worldScriptSpec : ChangeSpec := { name := "worldScript", fn := fun _ => fun
  | [d] => { results := [.lit (.bool true)], args := [d] }
  | _ => none }
def worldScriptRow : OpenClaim := { program := "ytnklglbnblbbeaa", sum := "67cca5d044a5d82c89365f149b1b7b87090bb4a4fbde7c18f6dd48668e05c43c", func := "thunkmill/thunkmilllaw14.WorldScript", spec := "worldScript", apart := false }
def WorldScriptSaid : Prop := worldScriptRow.holds Try.pinned (OpenSpec.ofChange worldScriptSpec)

/-- ITS FALSE NEIGHBOUR: 'it returns false'. Refute it at one input. -/
def worldScriptWrong : ChangeSpec := { name := "worldScript", fn := fun _ => fun
  | [d] => { results := [.lit (.bool false)], args := [d] }
  | _ => none }
def WorldScriptWrongFalsely : Prop := worldScriptRow.holds Try.pinned (OpenSpec.ofChange worldScriptWrong)

/-- 'thunkmilllaw14.WorldNil': WHATEVER THE INPUT: true; the input reads as it did. -/
def worldNilSpec : ChangeSpec := { name := "worldNil", fn := fun _ => fun
  | [d1, d2] => { results := [.lit (.bool true)], args := [d1, d2] }
  | _ => none }
def worldNilRow : OpenClaim := { program := "ytnklglbnblbbeaa", sum := "67cca5d044a5d82c89365f149b1b7b87090bb4a4fbde7c18f6dd48668e05c43c", func := "thunkmill/thunkmilllaw14.WorldNil", spec := "worldNil", apart := false }
def WorldNilSaid : Prop := worldNilRow.holds Try.pinned (OpenSpec.ofChange worldNilSpec)

/-- ITS FALSE NEIGHBOUR: 'it returns false'. Refute it at one input. -/
def worldNilWrong : ChangeSpec := { name := "worldNil", fn := fun _ => fun
  | [d1, d2] => { results := [.lit (.bool false)], args := [d1, d2] }
  | _ => none }
def WorldNilWrongFalsely : Prop := worldNilRow.holds Try.pinned (OpenSpec.ofChange worldNilWrong)

/- THE SECOND FORM. 'bulk': how many values and letters a reading holds, each counted each time it is reached (what is shared counts as often as it is met; a slice's spare places count too). A statement '..UptoSaid' is the law's where the arguments, and the package variables that the reading takes, are together of bulk at most 1048576: NARROWER than '..Said'. Prove '..Said' where nothing that the law and all that it calls make is longer than what came in: it says more and counts as full. Else prove '..UptoSaid'. A law counts once. -/
mutual
def uptoBulk {H : Type} : DataW H → Nat
  | .lit (.string bytes) => bytes.length + 1
  | .lit _ => 1
  | .nil => 1
  | .ptr d => uptoBulk d + 1
  | .slice elems spare => uptoBulkAll elems + uptoBulkAll spare + 1
  | .agg parts => uptoBulkAll parts + 1
  | .iface _ d => uptoBulk d + 1
  | .map entries => uptoBulkEntries entries + 1
  | .held _ => 1
def uptoBulkAll {H : Type} : List (DataW H) → Nat
  | [] => 0
  | d :: r => uptoBulk d + uptoBulkAll r
def uptoBulkEntries {H : Type} : List (Lit × DataW H) → Nat
  | [] => 0
  | x :: r => uptoBulkEntry x + uptoBulkEntries r
def uptoBulkEntry {H : Type} : Lit × DataW H → Nat
  | (.string bytes, d) => bytes.length + uptoBulk d + 1
  | (_, d) => uptoBulk d + 1
 end
def uptoSmall : (H : Type) → List (DataW H) → Bool := fun _ ds => decide (uptoBulkAll ds ≤ 1048576)
def OpenSpec.upto (s : _root_.Go.ChangeSpec) : _root_.Go.OpenSpec := { _root_.Go.OpenSpec.ofChange s with cond := some uptoSmall }

/-- 'thunkmilllaw14.WorldChunks', WHERE WHAT IT READS IS OF BULK AT MOST 1048576: true; the input reads as it did. -/
def worldChunksUptoRow : OpenClaim := { program := "ytnklglbnblbbeaa", sum := "67cca5d044a5d82c89365f149b1b7b87090bb4a4fbde7c18f6dd48668e05c43c", func := "thunkmill/thunkmilllaw14.WorldChunks", spec := "worldChunks", apart := false, narrowed := true }
def WorldChunksUptoSaid : Prop := worldChunksUptoRow.holds Try.pinned (OpenSpec.upto worldChunksSpec)

/-- 'thunkmilllaw14.WorldNames', WHERE WHAT IT READS IS OF BULK AT MOST 1048576: true; the input reads as it did. -/
def worldNamesUptoRow : OpenClaim := { program := "ytnklglbnblbbeaa", sum := "67cca5d044a5d82c89365f149b1b7b87090bb4a4fbde7c18f6dd48668e05c43c", func := "thunkmill/thunkmilllaw14.WorldNames", spec := "worldNames", apart := false, narrowed := true }
def WorldNamesUptoSaid : Prop := worldNamesUptoRow.holds Try.pinned (OpenSpec.upto worldNamesSpec)

/-- 'thunkmilllaw14.WorldScript', WHERE WHAT IT READS IS OF BULK AT MOST 1048576: true; the input reads as it did. -/
def worldScriptUptoRow : OpenClaim := { program := "ytnklglbnblbbeaa", sum := "67cca5d044a5d82c89365f149b1b7b87090bb4a4fbde7c18f6dd48668e05c43c", func := "thunkmill/thunkmilllaw14.WorldScript", spec := "worldScript", apart := false, narrowed := true }
def WorldScriptUptoSaid : Prop := worldScriptUptoRow.holds Try.pinned (OpenSpec.upto worldScriptSpec)

/-- 'thunkmilllaw14.WorldNil', WHERE WHAT IT READS IS OF BULK AT MOST 1048576: true; the input reads as it did. -/
def worldNilUptoRow : OpenClaim := { program := "ytnklglbnblbbeaa", sum := "67cca5d044a5d82c89365f149b1b7b87090bb4a4fbde7c18f6dd48668e05c43c", func := "thunkmill/thunkmilllaw14.WorldNil", spec := "worldNil", apart := false, narrowed := true }
def WorldNilUptoSaid : Prop := worldNilUptoRow.holds Try.pinned (OpenSpec.upto worldNilSpec)

end Rows
end Go.Proofs.Ytnklglbnblbbeaa
