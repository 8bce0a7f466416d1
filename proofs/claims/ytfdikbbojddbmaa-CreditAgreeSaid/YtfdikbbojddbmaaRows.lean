/-
  No cell of these rows narrows 'for every input' (looked for: loops, veiled, ifaces, maps, wideKeys, modest, calm, conditions, laid).
  DERIVED. THE GIVEN ROWS OF THIS SEAT. 3 by the template 'for every input the law returns true; each argument reads behind the call as it read before'; 0 by the template 'total and deterministic' (their statements: YtfdikbbojddbmaaTotals.lean).
  GIVEN WITH THE SEED: the statements are not yours to turn. If you find one false, say at which input.
  Laid BY PROGRAM, IN A SANDBOX (cutbox-rows.mjs): the forced cells as the released guide's own fill.sh prints them over the translation f3e324c79a29489d… (all of the seat's roots in one cut). By AI agents, Wed Nov 11 2026. No macro, syntax, notation, axiom, sorry.
-/
import Derived.Test.YtfdikbbojddbmaaChecked
import GoSem.Claim
import GoSem.ClaimJoined
import GoSem.ClaimMapViews
import Derived.JoinedTies
import Derived.KernelRfl
namespace Go.Proofs.Ytfdikbbojddbmaa
/- THE CELL 'sum', in the pinned program and in every row, IS THE sha256 OF THE DUMP (.gsa) THAT YtfdikbbojddbmaaProg.lean LOADS. Nothing in Lean hashes anything: it is a label: what it is worth is what the hold of that sum in a sandbox is worth. -/
noncomputable def Try.pinned : Pinned := { name := "ytfdikbbojddbmaa", sum := "f3e324c79a29489dd6275e1459373bfb04b6a20c385179479ed0946771d22721", checked := Try.checked }
namespace Rows
def none {H : Type} : Left H := { results := [], args := [] }

/-- 'sennitlaw21.CreditRuns': WHATEVER THE INPUT: true; the input reads as it did. -/
def creditRunsSpec : ChangeSpec := { name := "creditRuns", fn := fun _ => fun
  | [d1, d2, d3] => { results := [.lit (.bool true)], args := [d1, d2, d3] }
  | _ => none }
def creditRunsRow : OpenClaim := { program := "ytfdikbbojddbmaa", sum := "f3e324c79a29489dd6275e1459373bfb04b6a20c385179479ed0946771d22721", func := "sennit/sennitlaw21.CreditRuns", spec := "creditRuns", apart := false }
def CreditRunsSaid : Prop := creditRunsRow.holds Try.pinned (OpenSpec.ofChange creditRunsSpec)

/-- ITS FALSE NEIGHBOUR: 'it returns false'. Refute it at one input. -/
def creditRunsWrong : ChangeSpec := { name := "creditRuns", fn := fun _ => fun
  | [d1, d2, d3] => { results := [.lit (.bool false)], args := [d1, d2, d3] }
  | _ => none }
def CreditRunsWrongFalsely : Prop := creditRunsRow.holds Try.pinned (OpenSpec.ofChange creditRunsWrong)

/-- 'sennitlaw21.CreditAgree': WHATEVER THE INPUT: true; the input reads as it did. -/
def creditAgreeSpec : ChangeSpec := { name := "creditAgree", fn := fun _ => fun
  | [d1, d2] => { results := [.lit (.bool true)], args := [d1, d2] }
  | _ => none }
def creditAgreeRow : OpenClaim := { program := "ytfdikbbojddbmaa", sum := "f3e324c79a29489dd6275e1459373bfb04b6a20c385179479ed0946771d22721", func := "sennit/sennitlaw21.CreditAgree", spec := "creditAgree", apart := false }
def CreditAgreeSaid : Prop := creditAgreeRow.holds Try.pinned (OpenSpec.ofChange creditAgreeSpec)

/-- ITS FALSE NEIGHBOUR: 'it returns false'. Refute it at one input. -/
def creditAgreeWrong : ChangeSpec := { name := "creditAgree", fn := fun _ => fun
  | [d1, d2] => { results := [.lit (.bool false)], args := [d1, d2] }
  | _ => none }
def CreditAgreeWrongFalsely : Prop := creditAgreeRow.holds Try.pinned (OpenSpec.ofChange creditAgreeWrong)

/-- 'sennitlaw21.CreditSteps': WHATEVER THE INPUT: true; the input reads as it did. -/
def creditStepsSpec : ChangeSpec := { name := "creditSteps", fn := fun _ => fun
  | [d1, d2] => { results := [.lit (.bool true)], args := [d1, d2] }
  | _ => none }
def creditStepsRow : OpenClaim := { program := "ytfdikbbojddbmaa", sum := "f3e324c79a29489dd6275e1459373bfb04b6a20c385179479ed0946771d22721", func := "sennit/sennitlaw21.CreditSteps", spec := "creditSteps", apart := false }
def CreditStepsSaid : Prop := creditStepsRow.holds Try.pinned (OpenSpec.ofChange creditStepsSpec)

/-- ITS FALSE NEIGHBOUR: 'it returns false'. Refute it at one input. -/
def creditStepsWrong : ChangeSpec := { name := "creditSteps", fn := fun _ => fun
  | [d1, d2] => { results := [.lit (.bool false)], args := [d1, d2] }
  | _ => none }
def CreditStepsWrongFalsely : Prop := creditStepsRow.holds Try.pinned (OpenSpec.ofChange creditStepsWrong)

/- THE SECOND FORM. 'bulk': how many values and letters a reading holds, each counted each time it is reached (what is shared counts as often as it is met; a slice's spare places count too). A statement '..UptoSaid' is the law's where the arguments, and the package variables that the reading takes, are together of bulk at most 1048576: NARROWER than '..Said'. Prove '..Said' where nothing that the law and all that it calls make is longer than what came in: it says more and counts as full. Else prove '..UptoSaid'. A law counts once. -/
mutual
def uptoBulk {H : Type} : DataW H → Nat
  | .lit (.string bytes) => bytes.length + 1
  | .lit _ => 1
  | .nil => 1
  | .ptr d => uptoBulk d + 1
  | .slice elems spare => uptoBulkAll elems + uptoBulkAll spare + 1
  | .agg parts => uptoBulkAll parts + 1
  | .iface _ d => uptoBulk d + 1
  | .map entries => uptoBulkEntries entries + 1
  | .held _ => 1
def uptoBulkAll {H : Type} : List (DataW H) → Nat
  | [] => 0
  | d :: r => uptoBulk d + uptoBulkAll r
def uptoBulkEntries {H : Type} : List (Lit × DataW H) → Nat
  | [] => 0
  | x :: r => uptoBulkEntry x + uptoBulkEntries r
def uptoBulkEntry {H : Type} : Lit × DataW H → Nat
  | (.string bytes, d) => bytes.length + uptoBulk d + 1
  | (_, d) => uptoBulk d + 1
 end
def uptoSmall : (H : Type) → List (DataW H) → Bool := fun _ ds => decide (uptoBulkAll ds ≤ 1048576)
def OpenSpec.upto (s : _root_.Go.ChangeSpec) : _root_.Go.OpenSpec := { _root_.Go.OpenSpec.ofChange s with cond := some uptoSmall }

/-- 'sennitlaw21.CreditRuns', WHERE WHAT IT READS IS OF BULK AT MOST 1048576: true; the input reads as it did. -/
def creditRunsUptoRow : OpenClaim := { program := "ytfdikbbojddbmaa", sum := "f3e324c79a29489dd6275e1459373bfb04b6a20c385179479ed0946771d22721", func := "sennit/sennitlaw21.CreditRuns", spec := "creditRuns", apart := false, narrowed := true }
def CreditRunsUptoSaid : Prop := creditRunsUptoRow.holds Try.pinned (OpenSpec.upto creditRunsSpec)

/-- 'sennitlaw21.CreditAgree', WHERE WHAT IT READS IS OF BULK AT MOST 1048576: true; the input reads as it did. -/
def creditAgreeUptoRow : OpenClaim := { program := "ytfdikbbojddbmaa", sum := "f3e324c79a29489dd6275e1459373bfb04b6a20c385179479ed0946771d22721", func := "sennit/sennitlaw21.CreditAgree", spec := "creditAgree", apart := false, narrowed := true }
def CreditAgreeUptoSaid : Prop := creditAgreeUptoRow.holds Try.pinned (OpenSpec.upto creditAgreeSpec)

/-- 'sennitlaw21.CreditSteps', WHERE WHAT IT READS IS OF BULK AT MOST 1048576: true; the input reads as it did. -/
def creditStepsUptoRow : OpenClaim := { program := "ytfdikbbojddbmaa", sum := "f3e324c79a29489dd6275e1459373bfb04b6a20c385179479ed0946771d22721", func := "sennit/sennitlaw21.CreditSteps", spec := "creditSteps", apart := false, narrowed := true }
def CreditStepsUptoSaid : Prop := creditStepsUptoRow.holds Try.pinned (OpenSpec.upto creditStepsSpec)

end Rows
end Go.Proofs.Ytfdikbbojddbmaa
