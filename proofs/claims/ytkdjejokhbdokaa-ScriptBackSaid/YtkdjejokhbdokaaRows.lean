/-
  No cell of these rows narrows 'for every input' (looked for: loops, veiled, ifaces, maps, wideKeys, modest, calm, conditions, laid).
  DERIVED. THE GIVEN ROWS OF THIS SEAT. 5 by the template 'for every input the law returns true; each argument reads behind the call as it read before'; 0 by the template 'total and deterministic' (their statements: YtkdjejokhbdokaaTotals.lean).
  GIVEN WITH THE SEED: the statements are not yours to turn. If you find one false, say at which input.
  Laid BY PROGRAM, IN A SANDBOX (cutbox-rows.mjs): the forced cells as the released guide's own fill.sh prints them over the translation 522ea3d25b6334b8… (all of the seat's roots in one cut). By AI agents, Wed Nov 11 2026. No macro, syntax, notation, axiom, sorry.
-/
import Derived.Test.YtkdjejokhbdokaaChecked
import GoSem.Claim
import GoSem.ClaimJoined
import GoSem.ClaimMapViews
import Derived.JoinedTies
import Derived.KernelRfl
namespace Go.Proofs.Ytkdjejokhbdokaa
/- THE CELL 'sum', in the pinned program and in every row, IS THE sha256 OF THE DUMP (.gsa) THAT YtkdjejokhbdokaaProg.lean LOADS. Nothing in Lean hashes anything: it is a label: what it is worth is what the hold of that sum in a sandbox is worth. -/
noncomputable def Try.pinned : Pinned := { name := "ytkdjejokhbdokaa", sum := "522ea3d25b6334b85c7d7844d169300504801c11050d367c95d24c50dcd0a671", checked := Try.checked }
namespace Rows
def none {H : Type} : Left H := { results := [], args := [] }

/-- 'barrowlaw18.ScriptRead': WHATEVER THE INPUT: true; the input reads as it did. -/
def scriptReadSpec : ChangeSpec := { name := "scriptRead", fn := fun _ => fun
  | [d] => { results := [.lit (.bool true)], args := [d] }
  | _ => none }
def scriptReadRow : OpenClaim := { program := "ytkdjejokhbdokaa", sum := "522ea3d25b6334b85c7d7844d169300504801c11050d367c95d24c50dcd0a671", func := "barrow/barrowlaw18.ScriptRead", spec := "scriptRead", apart := false }
def ScriptReadSaid : Prop := scriptReadRow.holds Try.pinned (OpenSpec.ofChange scriptReadSpec)

/-- ITS FALSE NEIGHBOUR: 'it returns false'. Refute it at one input. -/
def scriptReadWrong : ChangeSpec := { name := "scriptRead", fn := fun _ => fun
  | [d] => { results := [.lit (.bool false)], args := [d] }
  | _ => none }
def ScriptReadWrongFalsely : Prop := scriptReadRow.holds Try.pinned (OpenSpec.ofChange scriptReadWrong)

/-- 'barrowlaw18.ScriptNames': WHATEVER THE INPUT: true; the input reads as it did. -/
def scriptNamesSpec : ChangeSpec := { name := "scriptNames", fn := fun _ => fun
  | [] => { results := [.lit (.bool true)], args := [] }
  | _ => none }
def scriptNamesRow : OpenClaim := { program := "ytkdjejokhbdokaa", sum := "522ea3d25b6334b85c7d7844d169300504801c11050d367c95d24c50dcd0a671", func := "barrow/barrowlaw18.ScriptNames", spec := "scriptNames", apart := false }
def ScriptNamesSaid : Prop := scriptNamesRow.holds Try.pinned (OpenSpec.ofChange scriptNamesSpec)

/-- ITS FALSE NEIGHBOUR: 'it returns false'. Refute it at one input. -/
def scriptNamesWrong : ChangeSpec := { name := "scriptNames", fn := fun _ => fun
  | [] => { results := [.lit (.bool false)], args := [] }
  | _ => none }
def ScriptNamesWrongFalsely : Prop := scriptNamesRow.holds Try.pinned (OpenSpec.ofChange scriptNamesWrong)

/-- 'barrowlaw18.ScriptFold': WHATEVER THE INPUT: true; the input reads as it did. -/
def scriptFoldSpec : ChangeSpec := { name := "scriptFold", fn := fun _ => fun
  | [d1, d2] => { results := [.lit (.bool true)], args := [d1, d2] }
  | _ => none }
def scriptFoldRow : OpenClaim := { program := "ytkdjejokhbdokaa", sum := "522ea3d25b6334b85c7d7844d169300504801c11050d367c95d24c50dcd0a671", func := "barrow/barrowlaw18.ScriptFold", spec := "scriptFold", apart := false }
def ScriptFoldSaid : Prop := scriptFoldRow.holds Try.pinned (OpenSpec.ofChange scriptFoldSpec)

/-- ITS FALSE NEIGHBOUR: 'it returns false'. Refute it at one input. -/
def scriptFoldWrong : ChangeSpec := { name := "scriptFold", fn := fun _ => fun
  | [d1, d2] => { results := [.lit (.bool false)], args := [d1, d2] }
  | _ => none }
def ScriptFoldWrongFalsely : Prop := scriptFoldRow.holds Try.pinned (OpenSpec.ofChange scriptFoldWrong)

/-- 'barrowlaw18.ScriptBack': WHATEVER THE INPUT: true; the input reads as it did. -/
def scriptBackSpec : ChangeSpec := { name := "scriptBack", fn := fun _ => fun
  | [d] => { results := [.lit (.bool true)], args := [d] }
  | _ => none }
def scriptBackRow : OpenClaim := { program := "ytkdjejokhbdokaa", sum := "522ea3d25b6334b85c7d7844d169300504801c11050d367c95d24c50dcd0a671", func := "barrow/barrowlaw18.ScriptBack", spec := "scriptBack", apart := false }
def ScriptBackSaid : Prop := scriptBackRow.holds Try.pinned (OpenSpec.ofChange scriptBackSpec)

/-- ITS FALSE NEIGHBOUR: 'it returns false'. Refute it at one input. -/
def scriptBackWrong : ChangeSpec := { name := "scriptBack", fn := fun _ => fun
  | [d] => { results := [.lit (.bool false)], args := [d] }
  | _ => none }
def ScriptBackWrongFalsely : Prop := scriptBackRow.holds Try.pinned (OpenSpec.ofChange scriptBackWrong)

/-- 'barrowlaw18.ScriptJoins': WHATEVER THE INPUT: true; the input reads as it did. -/
def scriptJoinsSpec : ChangeSpec := { name := "scriptJoins", fn := fun _ => fun
  | [d1, d2] => { results := [.lit (.bool true)], args := [d1, d2] }
  | _ => none }
def scriptJoinsRow : OpenClaim := { program := "ytkdjejokhbdokaa", sum := "522ea3d25b6334b85c7d7844d169300504801c11050d367c95d24c50dcd0a671", func := "barrow/barrowlaw18.ScriptJoins", spec := "scriptJoins", apart := false }
def ScriptJoinsSaid : Prop := scriptJoinsRow.holds Try.pinned (OpenSpec.ofChange scriptJoinsSpec)

/-- ITS FALSE NEIGHBOUR: 'it returns false'. Refute it at one input. -/
def scriptJoinsWrong : ChangeSpec := { name := "scriptJoins", fn := fun _ => fun
  | [d1, d2] => { results := [.lit (.bool false)], args := [d1, d2] }
  | _ => none }
def ScriptJoinsWrongFalsely : Prop := scriptJoinsRow.holds Try.pinned (OpenSpec.ofChange scriptJoinsWrong)

/- THE SECOND FORM. 'bulk': how many values and letters a reading holds, each counted each time it is reached (what is shared counts as often as it is met; a slice's spare places count too). A statement '..UptoSaid' is the law's where the arguments, and the package variables that the reading takes, are together of bulk at most 1048576: NARROWER than '..Said'. Prove '..Said' where nothing that the law and all that it calls make is longer than what came in: it says more and counts as full. Else prove '..UptoSaid'. A law counts once. -/
mutual
def uptoBulk {H : Type} : DataW H → Nat
  | .lit (.string bytes) => bytes.length + 1
  | .lit _ => 1
  | .nil => 1
  | .ptr d => uptoBulk d + 1
  | .slice elems spare => uptoBulkAll elems + uptoBulkAll spare + 1
  | .agg parts => uptoBulkAll parts + 1
  | .iface _ d => uptoBulk d + 1
  | .map entries => uptoBulkEntries entries + 1
  | .held _ => 1
def uptoBulkAll {H : Type} : List (DataW H) → Nat
  | [] => 0
  | d :: r => uptoBulk d + uptoBulkAll r
def uptoBulkEntries {H : Type} : List (Lit × DataW H) → Nat
  | [] => 0
  | x :: r => uptoBulkEntry x + uptoBulkEntries r
def uptoBulkEntry {H : Type} : Lit × DataW H → Nat
  | (.string bytes, d) => bytes.length + uptoBulk d + 1
  | (_, d) => uptoBulk d + 1
 end
def uptoSmall : (H : Type) → List (DataW H) → Bool := fun _ ds => decide (uptoBulkAll ds ≤ 1048576)
def OpenSpec.upto (s : _root_.Go.ChangeSpec) : _root_.Go.OpenSpec := { _root_.Go.OpenSpec.ofChange s with cond := some uptoSmall }

/-- 'barrowlaw18.ScriptRead', WHERE WHAT IT READS IS OF BULK AT MOST 1048576: true; the input reads as it did. -/
def scriptReadUptoRow : OpenClaim := { program := "ytkdjejokhbdokaa", sum := "522ea3d25b6334b85c7d7844d169300504801c11050d367c95d24c50dcd0a671", func := "barrow/barrowlaw18.ScriptRead", spec := "scriptRead", apart := false, narrowed := true }
def ScriptReadUptoSaid : Prop := scriptReadUptoRow.holds Try.pinned (OpenSpec.upto scriptReadSpec)

/-- 'barrowlaw18.ScriptNames', WHERE WHAT IT READS IS OF BULK AT MOST 1048576: true; the input reads as it did. -/
def scriptNamesUptoRow : OpenClaim := { program := "ytkdjejokhbdokaa", sum := "522ea3d25b6334b85c7d7844d169300504801c11050d367c95d24c50dcd0a671", func := "barrow/barrowlaw18.ScriptNames", spec := "scriptNames", apart := false, narrowed := true }
def ScriptNamesUptoSaid : Prop := scriptNamesUptoRow.holds Try.pinned (OpenSpec.upto scriptNamesSpec)

/-- 'barrowlaw18.ScriptFold', WHERE WHAT IT READS IS OF BULK AT MOST 1048576: true; the input reads as it did. -/
def scriptFoldUptoRow : OpenClaim := { program := "ytkdjejokhbdokaa", sum := "522ea3d25b6334b85c7d7844d169300504801c11050d367c95d24c50dcd0a671", func := "barrow/barrowlaw18.ScriptFold", spec := "scriptFold", apart := false, narrowed := true }
def ScriptFoldUptoSaid : Prop := scriptFoldUptoRow.holds Try.pinned (OpenSpec.upto scriptFoldSpec)

/-- 'barrowlaw18.ScriptBack', WHERE WHAT IT READS IS OF BULK AT MOST 1048576: true; the input reads as it did. -/
def scriptBackUptoRow : OpenClaim := { program := "ytkdjejokhbdokaa", sum := "522ea3d25b6334b85c7d7844d169300504801c11050d367c95d24c50dcd0a671", func := "barrow/barrowlaw18.ScriptBack", spec := "scriptBack", apart := false, narrowed := true }
def ScriptBackUptoSaid : Prop := scriptBackUptoRow.holds Try.pinned (OpenSpec.upto scriptBackSpec)

/-- 'barrowlaw18.ScriptJoins', WHERE WHAT IT READS IS OF BULK AT MOST 1048576: true; the input reads as it did. -/
def scriptJoinsUptoRow : OpenClaim := { program := "ytkdjejokhbdokaa", sum := "522ea3d25b6334b85c7d7844d169300504801c11050d367c95d24c50dcd0a671", func := "barrow/barrowlaw18.ScriptJoins", spec := "scriptJoins", apart := false, narrowed := true }
def ScriptJoinsUptoSaid : Prop := scriptJoinsUptoRow.holds Try.pinned (OpenSpec.upto scriptJoinsSpec)

end Rows
end Go.Proofs.Ytkdjejokhbdokaa
