/-
  NARROWER THAN 'FOR EVERY INPUT', by the rows' own cells (each row's printed sentence says how): KindChecks: loops · CombineTypes: loops.
  DERIVED. THE GIVEN ROWS OF THIS SEAT. 4 by the template 'for every input the law returns true; each argument reads behind the call as it read before'; 0 by the template 'total and deterministic' (their statements: YtkefplbhpbdhdaaTotals.lean).
  GIVEN WITH THE SEED: the statements are not yours to turn. If you find one false, say at which input.
  Laid BY PROGRAM, IN A SANDBOX (cutbox-rows.mjs): the forced cells as the released guide's own fill.sh prints them over the translation b04d4d23d1660c64… (all of the seat's roots in one cut). By AI agents, Wed Nov 11 2026. No macro, syntax, notation, axiom, sorry.
-/
import Derived.Test.YtkefplbhpbdhdaaChecked
import GoSem.Claim
import GoSem.ClaimJoined
import GoSem.ClaimMapViews
import Derived.JoinedTies
import Derived.KernelRfl
namespace Go.Proofs.Ytkefplbhpbdhdaa
/- THE CELL 'sum', in the pinned program and in every row, IS THE sha256 OF THE DUMP (.gsa) THAT YtkefplbhpbdhdaaProg.lean LOADS. Nothing in Lean hashes anything: it is a label: what it is worth is what the hold of that sum in a sandbox is worth. -/
noncomputable def Try.pinned : Pinned := { name := "ytkefplbhpbdhdaa", sum := "b04d4d23d1660c64764f508c6bdaec919ca299c4e52c542a2177f1f6aa1870fe", checked := Try.checked }
namespace Rows
def none {H : Type} : Left H := { results := [], args := [] }

/-- 'watershedlaw02.KindChecks': WHATEVER THE INPUT: true; the input reads as it did. -/
def kindChecksSpec : ChangeSpec := { name := "kindChecks", fn := fun _ => fun
  | [d1, d2] => { results := [.lit (.bool true)], args := [d1, d2] }
  | _ => none }
def kindChecksRow : OpenClaim := { program := "ytkefplbhpbdhdaa", sum := "b04d4d23d1660c64764f508c6bdaec919ca299c4e52c542a2177f1f6aa1870fe", func := "watershed/watershedlaw02.KindChecks", spec := "kindChecks", inPlace := ["internal/abi.NoEscape"], unfollowed := true, recurses := true, loops := true, apart := false }
def KindChecksSaid : Prop := kindChecksRow.holds Try.pinned (OpenSpec.ofChange kindChecksSpec)

/-- ITS FALSE NEIGHBOUR: 'it returns false'. Refute it at one input. -/
def kindChecksWrong : ChangeSpec := { name := "kindChecks", fn := fun _ => fun
  | [d1, d2] => { results := [.lit (.bool false)], args := [d1, d2] }
  | _ => none }
def KindChecksWrongFalsely : Prop := kindChecksRow.holds Try.pinned (OpenSpec.ofChange kindChecksWrong)

/-- 'watershedlaw08.CombineTypes': WHATEVER THE INPUT: true; the input reads as it did. -/
def combineTypesSpec : ChangeSpec := { name := "combineTypes", fn := fun _ => fun
  | [d1, d2] => { results := [.lit (.bool true)], args := [d1, d2] }
  | _ => none }
def combineTypesRow : OpenClaim := { program := "ytkefplbhpbdhdaa", sum := "b04d4d23d1660c64764f508c6bdaec919ca299c4e52c542a2177f1f6aa1870fe", func := "watershed/watershedlaw08.CombineTypes", spec := "combineTypes", inPlace := ["internal/bytealg.abigen_runtime_cmpstring"], unfollowed := true, recurses := true, loops := true, apart := false }
def CombineTypesSaid : Prop := combineTypesRow.holds Try.pinned (OpenSpec.ofChange combineTypesSpec)

/-- ITS FALSE NEIGHBOUR: 'it returns false'. Refute it at one input. -/
def combineTypesWrong : ChangeSpec := { name := "combineTypes", fn := fun _ => fun
  | [d1, d2] => { results := [.lit (.bool false)], args := [d1, d2] }
  | _ => none }
def CombineTypesWrongFalsely : Prop := combineTypesRow.holds Try.pinned (OpenSpec.ofChange combineTypesWrong)

/-- 'watershedlaw08.CombineInts': WHATEVER THE INPUT: true; the input reads as it did. -/
def combineIntsSpec : ChangeSpec := { name := "combineInts", fn := fun _ => fun
  | [d] => { results := [.lit (.bool true)], args := [d] }
  | _ => none }
def combineIntsRow : OpenClaim := { program := "ytkefplbhpbdhdaa", sum := "b04d4d23d1660c64764f508c6bdaec919ca299c4e52c542a2177f1f6aa1870fe", func := "watershed/watershedlaw08.CombineInts", spec := "combineInts", inPlace := ["internal/bytealg.abigen_runtime_cmpstring"], unfollowed := true, recurses := true, apart := false }
def CombineIntsSaid : Prop := combineIntsRow.holds Try.pinned (OpenSpec.ofChange combineIntsSpec)

/-- ITS FALSE NEIGHBOUR: 'it returns false'. Refute it at one input. -/
def combineIntsWrong : ChangeSpec := { name := "combineInts", fn := fun _ => fun
  | [d] => { results := [.lit (.bool false)], args := [d] }
  | _ => none }
def CombineIntsWrongFalsely : Prop := combineIntsRow.holds Try.pinned (OpenSpec.ofChange combineIntsWrong)

/-- 'watershedlaw08.CombineTops': WHATEVER THE INPUT: true; the input reads as it did. -/
def combineTopsSpec : ChangeSpec := { name := "combineTops", fn := fun _ => fun
  | [d1, d2] => { results := [.lit (.bool true)], args := [d1, d2] }
  | _ => none }
def combineTopsRow : OpenClaim := { program := "ytkefplbhpbdhdaa", sum := "b04d4d23d1660c64764f508c6bdaec919ca299c4e52c542a2177f1f6aa1870fe", func := "watershed/watershedlaw08.CombineTops", spec := "combineTops", inPlace := ["internal/bytealg.abigen_runtime_cmpstring"], unfollowed := true, recurses := true, apart := false }
def CombineTopsSaid : Prop := combineTopsRow.holds Try.pinned (OpenSpec.ofChange combineTopsSpec)

/-- ITS FALSE NEIGHBOUR: 'it returns false'. Refute it at one input. -/
def combineTopsWrong : ChangeSpec := { name := "combineTops", fn := fun _ => fun
  | [d1, d2] => { results := [.lit (.bool false)], args := [d1, d2] }
  | _ => none }
def CombineTopsWrongFalsely : Prop := combineTopsRow.holds Try.pinned (OpenSpec.ofChange combineTopsWrong)

/- THE SECOND FORM. 'bulk': how many values and letters a reading holds, each counted each time it is reached (what is shared counts as often as it is met; a slice's spare places count too). A statement '..UptoSaid' is the law's where the arguments, and the package variables that the reading takes, are together of bulk at most 1048576: NARROWER than '..Said'. Prove '..Said' where nothing that the law and all that it calls make is longer than what came in: it says more and counts as full. Else prove '..UptoSaid'. A law counts once. -/
mutual
def uptoBulk {H : Type} : DataW H → Nat
  | .lit (.string bytes) => bytes.length + 1
  | .lit _ => 1
  | .nil => 1
  | .ptr d => uptoBulk d + 1
  | .slice elems spare => uptoBulkAll elems + uptoBulkAll spare + 1
  | .agg parts => uptoBulkAll parts + 1
  | .iface _ d => uptoBulk d + 1
  | .map entries => uptoBulkEntries entries + 1
  | .held _ => 1
def uptoBulkAll {H : Type} : List (DataW H) → Nat
  | [] => 0
  | d :: r => uptoBulk d + uptoBulkAll r
def uptoBulkEntries {H : Type} : List (Lit × DataW H) → Nat
  | [] => 0
  | x :: r => uptoBulkEntry x + uptoBulkEntries r
def uptoBulkEntry {H : Type} : Lit × DataW H → Nat
  | (.string bytes, d) => bytes.length + uptoBulk d + 1
  | (_, d) => uptoBulk d + 1
 end
def uptoSmall : (H : Type) → List (DataW H) → Bool := fun _ ds => decide (uptoBulkAll ds ≤ 1048576)
def OpenSpec.upto (s : _root_.Go.ChangeSpec) : _root_.Go.OpenSpec := { _root_.Go.OpenSpec.ofChange s with cond := some uptoSmall }

/-- 'watershedlaw02.KindChecks', WHERE WHAT IT READS IS OF BULK AT MOST 1048576: true; the input reads as it did. -/
def kindChecksUptoRow : OpenClaim := { program := "ytkefplbhpbdhdaa", sum := "b04d4d23d1660c64764f508c6bdaec919ca299c4e52c542a2177f1f6aa1870fe", func := "watershed/watershedlaw02.KindChecks", spec := "kindChecks", inPlace := ["internal/abi.NoEscape"], unfollowed := true, recurses := true, loops := true, apart := false, narrowed := true }
def KindChecksUptoSaid : Prop := kindChecksUptoRow.holds Try.pinned (OpenSpec.upto kindChecksSpec)

/-- 'watershedlaw08.CombineTypes', WHERE WHAT IT READS IS OF BULK AT MOST 1048576: true; the input reads as it did. -/
def combineTypesUptoRow : OpenClaim := { program := "ytkefplbhpbdhdaa", sum := "b04d4d23d1660c64764f508c6bdaec919ca299c4e52c542a2177f1f6aa1870fe", func := "watershed/watershedlaw08.CombineTypes", spec := "combineTypes", inPlace := ["internal/bytealg.abigen_runtime_cmpstring"], unfollowed := true, recurses := true, loops := true, apart := false, narrowed := true }
def CombineTypesUptoSaid : Prop := combineTypesUptoRow.holds Try.pinned (OpenSpec.upto combineTypesSpec)

/-- 'watershedlaw08.CombineInts', WHERE WHAT IT READS IS OF BULK AT MOST 1048576: true; the input reads as it did. -/
def combineIntsUptoRow : OpenClaim := { program := "ytkefplbhpbdhdaa", sum := "b04d4d23d1660c64764f508c6bdaec919ca299c4e52c542a2177f1f6aa1870fe", func := "watershed/watershedlaw08.CombineInts", spec := "combineInts", inPlace := ["internal/bytealg.abigen_runtime_cmpstring"], unfollowed := true, recurses := true, apart := false, narrowed := true }
def CombineIntsUptoSaid : Prop := combineIntsUptoRow.holds Try.pinned (OpenSpec.upto combineIntsSpec)

/-- 'watershedlaw08.CombineTops', WHERE WHAT IT READS IS OF BULK AT MOST 1048576: true; the input reads as it did. -/
def combineTopsUptoRow : OpenClaim := { program := "ytkefplbhpbdhdaa", sum := "b04d4d23d1660c64764f508c6bdaec919ca299c4e52c542a2177f1f6aa1870fe", func := "watershed/watershedlaw08.CombineTops", spec := "combineTops", inPlace := ["internal/bytealg.abigen_runtime_cmpstring"], unfollowed := true, recurses := true, apart := false, narrowed := true }
def CombineTopsUptoSaid : Prop := combineTopsUptoRow.holds Try.pinned (OpenSpec.upto combineTopsSpec)

end Rows
end Go.Proofs.Ytkefplbhpbdhdaa
