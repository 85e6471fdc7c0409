/-
  No cell of these rows narrows 'for every input' (looked for: loops, veiled, ifaces, maps, wideKeys, modest, calm, conditions, laid).
  DERIVED. THE GIVEN ROWS OF THIS SEAT. 6 by the template 'for every input the law returns true; each argument reads behind the call as it read before'; 0 by the template 'total and deterministic' (their statements: YtedaolnhkjjfhaaTotals.lean).
  GIVEN WITH THE SEED: the statements are not yours to turn. If you find one false, say at which input.
  Laid BY PROGRAM, IN A SANDBOX (cutbox-rows.mjs): the forced cells as the released guide's own fill.sh prints them over the translation fdf54a953e0fabee… (all of the seat's roots in one cut). By AI agents, Wed Nov 11 2026. No macro, syntax, notation, axiom, sorry.
-/
import Derived.Test.YtedaolnhkjjfhaaChecked
import GoSem.Claim
import GoSem.ClaimJoined
import GoSem.ClaimMapViews
import Derived.JoinedTies
import Derived.KernelRfl
namespace Go.Proofs.Ytedaolnhkjjfhaa
/- THE CELL 'sum', in the pinned program and in every row, IS THE sha256 OF THE DUMP (.gsa) THAT YtedaolnhkjjfhaaProg.lean LOADS. Nothing in Lean hashes anything: it is a label: what it is worth is what the hold of that sum in a sandbox is worth. -/
noncomputable def Try.pinned : Pinned := { name := "ytedaolnhkjjfhaa", sum := "fdf54a953e0fabeeb140b7c1466b9fe882254cf8b22ef627c70551177dce5699", checked := Try.checked }
namespace Rows
def none {H : Type} : Left H := { results := [], args := [] }

/-- 'signatorylaw53.AccountsSpec': WHATEVER THE INPUT: true; the input reads as it did. -/
def accountsSpecSpec : ChangeSpec := { name := "accountsSpec", fn := fun _ => fun
  | [d1, d2, d3, d4, d5] => { results := [.lit (.bool true)], args := [d1, d2, d3, d4, d5] }
  | _ => none }
def accountsSpecRow : OpenClaim := { program := "ytedaolnhkjjfhaa", sum := "fdf54a953e0fabeeb140b7c1466b9fe882254cf8b22ef627c70551177dce5699", func := "signatory/signatorylaw53.AccountsSpec", spec := "accountsSpec", unfollowed := true, recurses := true, plainKeys := false, apart := false }
def AccountsSpecSaid : Prop := accountsSpecRow.holds Try.pinned (OpenSpec.ofChange accountsSpecSpec)

/-- ITS FALSE NEIGHBOUR: 'it returns false'. Refute it at one input. -/
def accountsSpecWrong : ChangeSpec := { name := "accountsSpec", fn := fun _ => fun
  | [d1, d2, d3, d4, d5] => { results := [.lit (.bool false)], args := [d1, d2, d3, d4, d5] }
  | _ => none }
def AccountsSpecWrongFalsely : Prop := accountsSpecRow.holds Try.pinned (OpenSpec.ofChange accountsSpecWrong)

/-- 'signatorylaw53.AccountsHistorySpec': WHATEVER THE INPUT: true; the input reads as it did. -/
def accountsHistorySpecSpec : ChangeSpec := { name := "accountsHistorySpec", fn := fun _ => fun
  | [d1, d2, d3, d4, d5] => { results := [.lit (.bool true)], args := [d1, d2, d3, d4, d5] }
  | _ => none }
def accountsHistorySpecRow : OpenClaim := { program := "ytedaolnhkjjfhaa", sum := "fdf54a953e0fabeeb140b7c1466b9fe882254cf8b22ef627c70551177dce5699", func := "signatory/signatorylaw53.AccountsHistorySpec", spec := "accountsHistorySpec", unfollowed := true, recurses := true, plainKeys := false, apart := false }
def AccountsHistorySpecSaid : Prop := accountsHistorySpecRow.holds Try.pinned (OpenSpec.ofChange accountsHistorySpecSpec)

/-- ITS FALSE NEIGHBOUR: 'it returns false'. Refute it at one input. -/
def accountsHistorySpecWrong : ChangeSpec := { name := "accountsHistorySpec", fn := fun _ => fun
  | [d1, d2, d3, d4, d5] => { results := [.lit (.bool false)], args := [d1, d2, d3, d4, d5] }
  | _ => none }
def AccountsHistorySpecWrongFalsely : Prop := accountsHistorySpecRow.holds Try.pinned (OpenSpec.ofChange accountsHistorySpecWrong)

/-- 'signatorylaw53.AccountsKnown': WHATEVER THE INPUT: true; the input reads as it did. -/
def accountsKnownSpec : ChangeSpec := { name := "accountsKnown", fn := fun _ => fun
  | [d1, d2, d3, d4, d5, d6] => { results := [.lit (.bool true)], args := [d1, d2, d3, d4, d5, d6] }
  | _ => none }
def accountsKnownRow : OpenClaim := { program := "ytedaolnhkjjfhaa", sum := "fdf54a953e0fabeeb140b7c1466b9fe882254cf8b22ef627c70551177dce5699", func := "signatory/signatorylaw53.AccountsKnown", spec := "accountsKnown", unfollowed := true, recurses := true, plainKeys := false, apart := false }
def AccountsKnownSaid : Prop := accountsKnownRow.holds Try.pinned (OpenSpec.ofChange accountsKnownSpec)

/-- ITS FALSE NEIGHBOUR: 'it returns false'. Refute it at one input. -/
def accountsKnownWrong : ChangeSpec := { name := "accountsKnown", fn := fun _ => fun
  | [d1, d2, d3, d4, d5, d6] => { results := [.lit (.bool false)], args := [d1, d2, d3, d4, d5, d6] }
  | _ => none }
def AccountsKnownWrongFalsely : Prop := accountsKnownRow.holds Try.pinned (OpenSpec.ofChange accountsKnownWrong)

/-- 'signatorylaw53.AccountsSteps': WHATEVER THE INPUT: true; the input reads as it did. -/
def accountsStepsSpec : ChangeSpec := { name := "accountsSteps", fn := fun _ => fun
  | [d1, d2, d3, d4, d5] => { results := [.lit (.bool true)], args := [d1, d2, d3, d4, d5] }
  | _ => none }
def accountsStepsRow : OpenClaim := { program := "ytedaolnhkjjfhaa", sum := "fdf54a953e0fabeeb140b7c1466b9fe882254cf8b22ef627c70551177dce5699", func := "signatory/signatorylaw53.AccountsSteps", spec := "accountsSteps", unfollowed := true, recurses := true, plainKeys := false, apart := false }
def AccountsStepsSaid : Prop := accountsStepsRow.holds Try.pinned (OpenSpec.ofChange accountsStepsSpec)

/-- ITS FALSE NEIGHBOUR: 'it returns false'. Refute it at one input. -/
def accountsStepsWrong : ChangeSpec := { name := "accountsSteps", fn := fun _ => fun
  | [d1, d2, d3, d4, d5] => { results := [.lit (.bool false)], args := [d1, d2, d3, d4, d5] }
  | _ => none }
def AccountsStepsWrongFalsely : Prop := accountsStepsRow.holds Try.pinned (OpenSpec.ofChange accountsStepsWrong)

/-- 'signatorylaw53.AccountsKinds': WHATEVER THE INPUT: true; the input reads as it did. -/
def accountsKindsSpec : ChangeSpec := { name := "accountsKinds", fn := fun _ => fun
  | [d1, d2, d3, d4, d5] => { results := [.lit (.bool true)], args := [d1, d2, d3, d4, d5] }
  | _ => none }
def accountsKindsRow : OpenClaim := { program := "ytedaolnhkjjfhaa", sum := "fdf54a953e0fabeeb140b7c1466b9fe882254cf8b22ef627c70551177dce5699", func := "signatory/signatorylaw53.AccountsKinds", spec := "accountsKinds", unfollowed := true, recurses := true, plainKeys := false, apart := false }
def AccountsKindsSaid : Prop := accountsKindsRow.holds Try.pinned (OpenSpec.ofChange accountsKindsSpec)

/-- ITS FALSE NEIGHBOUR: 'it returns false'. Refute it at one input. -/
def accountsKindsWrong : ChangeSpec := { name := "accountsKinds", fn := fun _ => fun
  | [d1, d2, d3, d4, d5] => { results := [.lit (.bool false)], args := [d1, d2, d3, d4, d5] }
  | _ => none }
def AccountsKindsWrongFalsely : Prop := accountsKindsRow.holds Try.pinned (OpenSpec.ofChange accountsKindsWrong)

/-- 'signatorylaw53.AccountsNever': WHATEVER THE INPUT: true; the input reads as it did. -/
def accountsNeverSpec : ChangeSpec := { name := "accountsNever", fn := fun _ => fun
  | [d1, d2, d3] => { results := [.lit (.bool true)], args := [d1, d2, d3] }
  | _ => none }
def accountsNeverRow : OpenClaim := { program := "ytedaolnhkjjfhaa", sum := "fdf54a953e0fabeeb140b7c1466b9fe882254cf8b22ef627c70551177dce5699", func := "signatory/signatorylaw53.AccountsNever", spec := "accountsNever", unfollowed := true, recurses := true, plainKeys := false, apart := false }
def AccountsNeverSaid : Prop := accountsNeverRow.holds Try.pinned (OpenSpec.ofChange accountsNeverSpec)

/-- ITS FALSE NEIGHBOUR: 'it returns false'. Refute it at one input. -/
def accountsNeverWrong : ChangeSpec := { name := "accountsNever", fn := fun _ => fun
  | [d1, d2, d3] => { results := [.lit (.bool false)], args := [d1, d2, d3] }
  | _ => none }
def AccountsNeverWrongFalsely : Prop := accountsNeverRow.holds Try.pinned (OpenSpec.ofChange accountsNeverWrong)

/- THE SECOND FORM. 'bulk': how many values and letters a reading holds, each counted each time it is reached (what is shared counts as often as it is met; a slice's spare places count too). A statement '..UptoSaid' is the law's where the arguments, and the package variables that the reading takes, are together of bulk at most 1048576: NARROWER than '..Said'. Prove '..Said' where nothing that the law and all that it calls make is longer than what came in: it says more and counts as full. Else prove '..UptoSaid'. A law counts once. -/
mutual
def uptoBulk {H : Type} : DataW H → Nat
  | .lit (.string bytes) => bytes.length + 1
  | .lit _ => 1
  | .nil => 1
  | .ptr d => uptoBulk d + 1
  | .slice elems spare => uptoBulkAll elems + uptoBulkAll spare + 1
  | .agg parts => uptoBulkAll parts + 1
  | .iface _ d => uptoBulk d + 1
  | .map entries => uptoBulkEntries entries + 1
  | .held _ => 1
def uptoBulkAll {H : Type} : List (DataW H) → Nat
  | [] => 0
  | d :: r => uptoBulk d + uptoBulkAll r
def uptoBulkEntries {H : Type} : List (Lit × DataW H) → Nat
  | [] => 0
  | x :: r => uptoBulkEntry x + uptoBulkEntries r
def uptoBulkEntry {H : Type} : Lit × DataW H → Nat
  | (.string bytes, d) => bytes.length + uptoBulk d + 1
  | (_, d) => uptoBulk d + 1
 end
def uptoSmall : (H : Type) → List (DataW H) → Bool := fun _ ds => decide (uptoBulkAll ds ≤ 1048576)
def OpenSpec.upto (s : _root_.Go.ChangeSpec) : _root_.Go.OpenSpec := { _root_.Go.OpenSpec.ofChange s with cond := some uptoSmall }

/-- 'signatorylaw53.AccountsSpec', WHERE WHAT IT READS IS OF BULK AT MOST 1048576: true; the input reads as it did. -/
def accountsSpecUptoRow : OpenClaim := { program := "ytedaolnhkjjfhaa", sum := "fdf54a953e0fabeeb140b7c1466b9fe882254cf8b22ef627c70551177dce5699", func := "signatory/signatorylaw53.AccountsSpec", spec := "accountsSpec", unfollowed := true, recurses := true, plainKeys := false, apart := false, narrowed := true }
def AccountsSpecUptoSaid : Prop := accountsSpecUptoRow.holds Try.pinned (OpenSpec.upto accountsSpecSpec)

/-- 'signatorylaw53.AccountsHistorySpec', WHERE WHAT IT READS IS OF BULK AT MOST 1048576: true; the input reads as it did. -/
def accountsHistorySpecUptoRow : OpenClaim := { program := "ytedaolnhkjjfhaa", sum := "fdf54a953e0fabeeb140b7c1466b9fe882254cf8b22ef627c70551177dce5699", func := "signatory/signatorylaw53.AccountsHistorySpec", spec := "accountsHistorySpec", unfollowed := true, recurses := true, plainKeys := false, apart := false, narrowed := true }
def AccountsHistorySpecUptoSaid : Prop := accountsHistorySpecUptoRow.holds Try.pinned (OpenSpec.upto accountsHistorySpecSpec)

/-- 'signatorylaw53.AccountsKnown', WHERE WHAT IT READS IS OF BULK AT MOST 1048576: true; the input reads as it did. -/
def accountsKnownUptoRow : OpenClaim := { program := "ytedaolnhkjjfhaa", sum := "fdf54a953e0fabeeb140b7c1466b9fe882254cf8b22ef627c70551177dce5699", func := "signatory/signatorylaw53.AccountsKnown", spec := "accountsKnown", unfollowed := true, recurses := true, plainKeys := false, apart := false, narrowed := true }
def AccountsKnownUptoSaid : Prop := accountsKnownUptoRow.holds Try.pinned (OpenSpec.upto accountsKnownSpec)

/-- 'signatorylaw53.AccountsSteps', WHERE WHAT IT READS IS OF BULK AT MOST 1048576: true; the input reads as it did. -/
def accountsStepsUptoRow : OpenClaim := { program := "ytedaolnhkjjfhaa", sum := "fdf54a953e0fabeeb140b7c1466b9fe882254cf8b22ef627c70551177dce5699", func := "signatory/signatorylaw53.AccountsSteps", spec := "accountsSteps", unfollowed := true, recurses := true, plainKeys := false, apart := false, narrowed := true }
def AccountsStepsUptoSaid : Prop := accountsStepsUptoRow.holds Try.pinned (OpenSpec.upto accountsStepsSpec)

/-- 'signatorylaw53.AccountsKinds', WHERE WHAT IT READS IS OF BULK AT MOST 1048576: true; the input reads as it did. -/
def accountsKindsUptoRow : OpenClaim := { program := "ytedaolnhkjjfhaa", sum := "fdf54a953e0fabeeb140b7c1466b9fe882254cf8b22ef627c70551177dce5699", func := "signatory/signatorylaw53.AccountsKinds", spec := "accountsKinds", unfollowed := true, recurses := true, plainKeys := false, apart := false, narrowed := true }
def AccountsKindsUptoSaid : Prop := accountsKindsUptoRow.holds Try.pinned (OpenSpec.upto accountsKindsSpec)

/-- 'signatorylaw53.AccountsNever', WHERE WHAT IT READS IS OF BULK AT MOST 1048576: true; the input reads as it did. -/
def accountsNeverUptoRow : OpenClaim := { program := "ytedaolnhkjjfhaa", sum := "fdf54a953e0fabeeb140b7c1466b9fe882254cf8b22ef627c70551177dce5699", func := "signatory/signatorylaw53.AccountsNever", spec := "accountsNever", unfollowed := true, recurses := true, plainKeys := false, apart := false, narrowed := true }
def AccountsNeverUptoSaid : Prop := accountsNeverUptoRow.holds Try.pinned (OpenSpec.upto accountsNeverSpec)

end Rows
end Go.Proofs.Ytedaolnhkjjfhaa
