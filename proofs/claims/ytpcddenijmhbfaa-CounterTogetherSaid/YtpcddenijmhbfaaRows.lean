/-
  No cell of these rows narrows 'for every input' (looked for: loops, veiled, ifaces, maps, wideKeys, modest, calm, conditions, laid).
  DERIVED. THE GIVEN ROWS OF THIS SEAT. 3 by the template 'for every input the law returns true; each argument reads behind the call as it read before'; 0 by the template 'total and deterministic' (their statements: YtpcddenijmhbfaaTotals.lean).
  GIVEN WITH THE SEED: the statements are not yours to turn. If you find one false, say at which input.
  Laid BY PROGRAM, IN A SANDBOX (cutbox-rows.mjs): the forced cells as the released guide's own fill.sh prints them over the translation 1ccfb2b8cbe87521… (all of the seat's roots in one cut). By AI agents, Wed Nov 11 2026. No macro, syntax, notation, axiom, sorry.
-/
import Derived.Test.YtpcddenijmhbfaaChecked
import GoSem.Claim
import GoSem.ClaimJoined
import GoSem.ClaimMapViews
import Derived.JoinedTies
import Derived.KernelRfl
namespace Go.Proofs.Ytpcddenijmhbfaa
/- THE CELL 'sum', in the pinned program and in every row, IS THE sha256 OF THE DUMP (.gsa) THAT YtpcddenijmhbfaaProg.lean LOADS. Nothing in Lean hashes anything: it is a label: what it is worth is what the hold of that sum in a sandbox is worth. -/
noncomputable def Try.pinned : Pinned := { name := "ytpcddenijmhbfaa", sum := "1ccfb2b8cbe87521627a0aa4cdf131e052ed28025e64ccf6f96076f7685763cb", checked := Try.checked }
namespace Rows
def none {H : Type} : Left H := { results := [], args := [] }

/-- 'estuarylaw10.CounterSums': WHATEVER THE INPUT: true; the input reads as it did. -/
def counterSumsSpec : ChangeSpec := { name := "counterSums", fn := fun _ => fun
  | [d1, d2, d3] => { results := [.lit (.bool true)], args := [d1, d2, d3] }
  | _ => none }
def counterSumsRow : OpenClaim := { program := "ytpcddenijmhbfaa", sum := "1ccfb2b8cbe87521627a0aa4cdf131e052ed28025e64ccf6f96076f7685763cb", func := "estuary/estuarylaw10.CounterSums", spec := "counterSums", unfollowed := true, recurses := true, apart := false }
def CounterSumsSaid : Prop := counterSumsRow.holds Try.pinned (OpenSpec.ofChange counterSumsSpec)

/-- ITS FALSE NEIGHBOUR: 'it returns false'. Refute it at one input. -/
def counterSumsWrong : ChangeSpec := { name := "counterSums", fn := fun _ => fun
  | [d1, d2, d3] => { results := [.lit (.bool false)], args := [d1, d2, d3] }
  | _ => none }
def CounterSumsWrongFalsely : Prop := counterSumsRow.holds Try.pinned (OpenSpec.ofChange counterSumsWrong)

/-- 'estuarylaw10.CounterSteps': WHATEVER THE INPUT: true; the input reads as it did. -/
def counterStepsSpec : ChangeSpec := { name := "counterSteps", fn := fun _ => fun
  | [d1, d2, d3] => { results := [.lit (.bool true)], args := [d1, d2, d3] }
  | _ => none }
def counterStepsRow : OpenClaim := { program := "ytpcddenijmhbfaa", sum := "1ccfb2b8cbe87521627a0aa4cdf131e052ed28025e64ccf6f96076f7685763cb", func := "estuary/estuarylaw10.CounterSteps", spec := "counterSteps", unfollowed := true, recurses := true, apart := false }
def CounterStepsSaid : Prop := counterStepsRow.holds Try.pinned (OpenSpec.ofChange counterStepsSpec)

/-- ITS FALSE NEIGHBOUR: 'it returns false'. Refute it at one input. -/
def counterStepsWrong : ChangeSpec := { name := "counterSteps", fn := fun _ => fun
  | [d1, d2, d3] => { results := [.lit (.bool false)], args := [d1, d2, d3] }
  | _ => none }
def CounterStepsWrongFalsely : Prop := counterStepsRow.holds Try.pinned (OpenSpec.ofChange counterStepsWrong)

/-- 'estuarylaw10.CounterTogether': WHATEVER THE INPUT: true; the input reads as it did. -/
def counterTogetherSpec : ChangeSpec := { name := "counterTogether", fn := fun _ => fun
  | [d1, d2, d3] => { results := [.lit (.bool true)], args := [d1, d2, d3] }
  | _ => none }
def counterTogetherRow : OpenClaim := { program := "ytpcddenijmhbfaa", sum := "1ccfb2b8cbe87521627a0aa4cdf131e052ed28025e64ccf6f96076f7685763cb", func := "estuary/estuarylaw10.CounterTogether", spec := "counterTogether", unfollowed := true, recurses := true, apart := false }
def CounterTogetherSaid : Prop := counterTogetherRow.holds Try.pinned (OpenSpec.ofChange counterTogetherSpec)

/-- ITS FALSE NEIGHBOUR: 'it returns false'. Refute it at one input. -/
def counterTogetherWrong : ChangeSpec := { name := "counterTogether", fn := fun _ => fun
  | [d1, d2, d3] => { results := [.lit (.bool false)], args := [d1, d2, d3] }
  | _ => none }
def CounterTogetherWrongFalsely : Prop := counterTogetherRow.holds Try.pinned (OpenSpec.ofChange counterTogetherWrong)

/- THE SECOND FORM. 'bulk': how many values and letters a reading holds, each counted each time it is reached (what is shared counts as often as it is met; a slice's spare places count too). A statement '..UptoSaid' is the law's where the arguments, and the package variables that the reading takes, are together of bulk at most 1048576: NARROWER than '..Said'. Prove '..Said' where nothing that the law and all that it calls make is longer than what came in: it says more and counts as full. Else prove '..UptoSaid'. A law counts once. -/
mutual
def uptoBulk {H : Type} : DataW H → Nat
  | .lit (.string bytes) => bytes.length + 1
  | .lit _ => 1
  | .nil => 1
  | .ptr d => uptoBulk d + 1
  | .slice elems spare => uptoBulkAll elems + uptoBulkAll spare + 1
  | .agg parts => uptoBulkAll parts + 1
  | .iface _ d => uptoBulk d + 1
  | .map entries => uptoBulkEntries entries + 1
  | .held _ => 1
def uptoBulkAll {H : Type} : List (DataW H) → Nat
  | [] => 0
  | d :: r => uptoBulk d + uptoBulkAll r
def uptoBulkEntries {H : Type} : List (Lit × DataW H) → Nat
  | [] => 0
  | x :: r => uptoBulkEntry x + uptoBulkEntries r
def uptoBulkEntry {H : Type} : Lit × DataW H → Nat
  | (.string bytes, d) => bytes.length + uptoBulk d + 1
  | (_, d) => uptoBulk d + 1
 end
def uptoSmall : (H : Type) → List (DataW H) → Bool := fun _ ds => decide (uptoBulkAll ds ≤ 1048576)
def OpenSpec.upto (s : _root_.Go.ChangeSpec) : _root_.Go.OpenSpec := { _root_.Go.OpenSpec.ofChange s with cond := some uptoSmall }

/-- 'estuarylaw10.CounterSums', WHERE WHAT IT READS IS OF BULK AT MOST 1048576: true; the input reads as it did. -/
def counterSumsUptoRow : OpenClaim := { program := "ytpcddenijmhbfaa", sum := "1ccfb2b8cbe87521627a0aa4cdf131e052ed28025e64ccf6f96076f7685763cb", func := "estuary/estuarylaw10.CounterSums", spec := "counterSums", unfollowed := true, recurses := true, apart := false, narrowed := true }
def CounterSumsUptoSaid : Prop := counterSumsUptoRow.holds Try.pinned (OpenSpec.upto counterSumsSpec)

/-- 'estuarylaw10.CounterSteps', WHERE WHAT IT READS IS OF BULK AT MOST 1048576: true; the input reads as it did. -/
def counterStepsUptoRow : OpenClaim := { program := "ytpcddenijmhbfaa", sum := "1ccfb2b8cbe87521627a0aa4cdf131e052ed28025e64ccf6f96076f7685763cb", func := "estuary/estuarylaw10.CounterSteps", spec := "counterSteps", unfollowed := true, recurses := true, apart := false, narrowed := true }
def CounterStepsUptoSaid : Prop := counterStepsUptoRow.holds Try.pinned (OpenSpec.upto counterStepsSpec)

/-- 'estuarylaw10.CounterTogether', WHERE WHAT IT READS IS OF BULK AT MOST 1048576: true; the input reads as it did. -/
def counterTogetherUptoRow : OpenClaim := { program := "ytpcddenijmhbfaa", sum := "1ccfb2b8cbe87521627a0aa4cdf131e052ed28025e64ccf6f96076f7685763cb", func := "estuary/estuarylaw10.CounterTogether", spec := "counterTogether", unfollowed := true, recurses := true, apart := false, narrowed := true }
def CounterTogetherUptoSaid : Prop := counterTogetherUptoRow.holds Try.pinned (OpenSpec.upto counterTogetherSpec)

end Rows
end Go.Proofs.Ytpcddenijmhbfaa
