/-
  No cell of these rows narrows 'for every input' (looked for: loops, veiled, ifaces, maps, wideKeys, modest, calm, conditions, laid).
  DERIVED. THE GIVEN ROWS OF THIS SEAT. 7 by the template 'for every input the law returns true; each argument reads behind the call as it read before'; 0 by the template 'total and deterministic' (their statements: YtkceaepbjdfccaaTotals.lean).
  GIVEN WITH THE SEED: the statements are not yours to turn. If you find one false, say at which input.
  Laid BY PROGRAM, IN A SANDBOX (cutbox-rows.mjs): the forced cells as the released guide's own fill.sh prints them over the translation b17390db4f6aecc7… (all of the seat's roots in one cut). By AI agents, Wed Nov 11 2026. No macro, syntax, notation, axiom, sorry.
-/
import Derived.Test.YtkceaepbjdfccaaChecked
import GoSem.Claim
import GoSem.ClaimJoined
import GoSem.ClaimMapViews
import Derived.JoinedTies
import Derived.KernelRfl
namespace Go.Proofs.Ytkceaepbjdfccaa
/- THE CELL 'sum', in the pinned program and in every row, IS THE sha256 OF THE DUMP (.gsa) THAT YtkceaepbjdfccaaProg.lean LOADS. Nothing in Lean hashes anything: it is a label: what it is worth is what the hold of that sum in a sandbox is worth. -/
noncomputable def Try.pinned : Pinned := { name := "ytkceaepbjdfccaa", sum := "b17390db4f6aecc76e75d77b499b4e3d8285bee54ef5718b0b95b91650c63112", checked := Try.checked }
namespace Rows
def none {H : Type} : Left H := { results := [], args := [] }

/-- 'lethelaw01.WireOneForm': WHATEVER THE INPUT: true; the input reads as it did. -/
def wireOneFormSpec : ChangeSpec := { name := "wireOneForm", fn := fun _ => fun
  | [d1, d2] => { results := [.lit (.bool true)], args := [d1, d2] }
  | _ => none }
def wireOneFormRow : OpenClaim := { program := "ytkceaepbjdfccaa", sum := "b17390db4f6aecc76e75d77b499b4e3d8285bee54ef5718b0b95b91650c63112", func := "lethe/lethelaw01.WireOneForm", spec := "wireOneForm", apart := false }
def WireOneFormSaid : Prop := wireOneFormRow.holds Try.pinned (OpenSpec.ofChange wireOneFormSpec)

/-- ITS FALSE NEIGHBOUR: 'it returns false'. Refute it at one input. -/
def wireOneFormWrong : ChangeSpec := { name := "wireOneForm", fn := fun _ => fun
  | [d1, d2] => { results := [.lit (.bool false)], args := [d1, d2] }
  | _ => none }
def WireOneFormWrongFalsely : Prop := wireOneFormRow.holds Try.pinned (OpenSpec.ofChange wireOneFormWrong)

/-- 'lethelaw01.WireJoins': WHATEVER THE INPUT: true; the input reads as it did. -/
def wireJoinsSpec : ChangeSpec := { name := "wireJoins", fn := fun _ => fun
  | [d1, d2, d3] => { results := [.lit (.bool true)], args := [d1, d2, d3] }
  | _ => none }
def wireJoinsRow : OpenClaim := { program := "ytkceaepbjdfccaa", sum := "b17390db4f6aecc76e75d77b499b4e3d8285bee54ef5718b0b95b91650c63112", func := "lethe/lethelaw01.WireJoins", spec := "wireJoins", apart := false }
def WireJoinsSaid : Prop := wireJoinsRow.holds Try.pinned (OpenSpec.ofChange wireJoinsSpec)

/-- ITS FALSE NEIGHBOUR: 'it returns false'. Refute it at one input. -/
def wireJoinsWrong : ChangeSpec := { name := "wireJoins", fn := fun _ => fun
  | [d1, d2, d3] => { results := [.lit (.bool false)], args := [d1, d2, d3] }
  | _ => none }
def WireJoinsWrongFalsely : Prop := wireJoinsRow.holds Try.pinned (OpenSpec.ofChange wireJoinsWrong)

/-- 'lethelaw18.StateRules': WHATEVER THE INPUT: true; the input reads as it did. -/
def stateRulesSpec : ChangeSpec := { name := "stateRules", fn := fun _ => fun
  | [d1, d2, d3] => { results := [.lit (.bool true)], args := [d1, d2, d3] }
  | _ => none }
def stateRulesRow : OpenClaim := { program := "ytkceaepbjdfccaa", sum := "b17390db4f6aecc76e75d77b499b4e3d8285bee54ef5718b0b95b91650c63112", func := "lethe/lethelaw18.StateRules", spec := "stateRules", apart := false }
def StateRulesSaid : Prop := stateRulesRow.holds Try.pinned (OpenSpec.ofChange stateRulesSpec)

/-- ITS FALSE NEIGHBOUR: 'it returns false'. Refute it at one input. -/
def stateRulesWrong : ChangeSpec := { name := "stateRules", fn := fun _ => fun
  | [d1, d2, d3] => { results := [.lit (.bool false)], args := [d1, d2, d3] }
  | _ => none }
def StateRulesWrongFalsely : Prop := stateRulesRow.holds Try.pinned (OpenSpec.ofChange stateRulesWrong)

/-- 'lethelaw01.WireBack': WHATEVER THE INPUT: true; the input reads as it did. -/
def wireBackSpec : ChangeSpec := { name := "wireBack", fn := fun _ => fun
  | [d1, d2, d3] => { results := [.lit (.bool true)], args := [d1, d2, d3] }
  | _ => none }
def wireBackRow : OpenClaim := { program := "ytkceaepbjdfccaa", sum := "b17390db4f6aecc76e75d77b499b4e3d8285bee54ef5718b0b95b91650c63112", func := "lethe/lethelaw01.WireBack", spec := "wireBack", apart := false }
def WireBackSaid : Prop := wireBackRow.holds Try.pinned (OpenSpec.ofChange wireBackSpec)

/-- ITS FALSE NEIGHBOUR: 'it returns false'. Refute it at one input. -/
def wireBackWrong : ChangeSpec := { name := "wireBack", fn := fun _ => fun
  | [d1, d2, d3] => { results := [.lit (.bool false)], args := [d1, d2, d3] }
  | _ => none }
def WireBackWrongFalsely : Prop := wireBackRow.holds Try.pinned (OpenSpec.ofChange wireBackWrong)

/-- 'lethelaw01.WireFaults': WHATEVER THE INPUT: true; the input reads as it did. -/
def wireFaultsSpec : ChangeSpec := { name := "wireFaults", fn := fun _ => fun
  | [d1, d2, d3, d4] => { results := [.lit (.bool true)], args := [d1, d2, d3, d4] }
  | _ => none }
def wireFaultsRow : OpenClaim := { program := "ytkceaepbjdfccaa", sum := "b17390db4f6aecc76e75d77b499b4e3d8285bee54ef5718b0b95b91650c63112", func := "lethe/lethelaw01.WireFaults", spec := "wireFaults", apart := false }
def WireFaultsSaid : Prop := wireFaultsRow.holds Try.pinned (OpenSpec.ofChange wireFaultsSpec)

/-- ITS FALSE NEIGHBOUR: 'it returns false'. Refute it at one input. -/
def wireFaultsWrong : ChangeSpec := { name := "wireFaults", fn := fun _ => fun
  | [d1, d2, d3, d4] => { results := [.lit (.bool false)], args := [d1, d2, d3, d4] }
  | _ => none }
def WireFaultsWrongFalsely : Prop := wireFaultsRow.holds Try.pinned (OpenSpec.ofChange wireFaultsWrong)

/-- 'lethelaw18.StateLimits': WHATEVER THE INPUT: true; the input reads as it did. -/
def stateLimitsSpec : ChangeSpec := { name := "stateLimits", fn := fun _ => fun
  | [d] => { results := [.lit (.bool true)], args := [d] }
  | _ => none }
def stateLimitsRow : OpenClaim := { program := "ytkceaepbjdfccaa", sum := "b17390db4f6aecc76e75d77b499b4e3d8285bee54ef5718b0b95b91650c63112", func := "lethe/lethelaw18.StateLimits", spec := "stateLimits", unfollowed := true, recurses := true, apart := false }
def StateLimitsSaid : Prop := stateLimitsRow.holds Try.pinned (OpenSpec.ofChange stateLimitsSpec)

/-- ITS FALSE NEIGHBOUR: 'it returns false'. Refute it at one input. -/
def stateLimitsWrong : ChangeSpec := { name := "stateLimits", fn := fun _ => fun
  | [d] => { results := [.lit (.bool false)], args := [d] }
  | _ => none }
def StateLimitsWrongFalsely : Prop := stateLimitsRow.holds Try.pinned (OpenSpec.ofChange stateLimitsWrong)

/-- 'lethelaw01.WireExact': WHATEVER THE INPUT: true; the input reads as it did. -/
def wireExactSpec : ChangeSpec := { name := "wireExact", fn := fun _ => fun
  | [d] => { results := [.lit (.bool true)], args := [d] }
  | _ => none }
def wireExactRow : OpenClaim := { program := "ytkceaepbjdfccaa", sum := "b17390db4f6aecc76e75d77b499b4e3d8285bee54ef5718b0b95b91650c63112", func := "lethe/lethelaw01.WireExact", spec := "wireExact", apart := false }
def WireExactSaid : Prop := wireExactRow.holds Try.pinned (OpenSpec.ofChange wireExactSpec)

/-- ITS FALSE NEIGHBOUR: 'it returns false'. Refute it at one input. -/
def wireExactWrong : ChangeSpec := { name := "wireExact", fn := fun _ => fun
  | [d] => { results := [.lit (.bool false)], args := [d] }
  | _ => none }
def WireExactWrongFalsely : Prop := wireExactRow.holds Try.pinned (OpenSpec.ofChange wireExactWrong)

/- THE SECOND FORM. 'bulk': how many values and letters a reading holds, each counted each time it is reached (what is shared counts as often as it is met; a slice's spare places count too). A statement '..UptoSaid' is the law's where the arguments, and the package variables that the reading takes, are together of bulk at most 1048576: NARROWER than '..Said'. Prove '..Said' where nothing that the law and all that it calls make is longer than what came in: it says more and counts as full. Else prove '..UptoSaid'. A law counts once. -/
mutual
def uptoBulk {H : Type} : DataW H → Nat
  | .lit (.string bytes) => bytes.length + 1
  | .lit _ => 1
  | .nil => 1
  | .ptr d => uptoBulk d + 1
  | .slice elems spare => uptoBulkAll elems + uptoBulkAll spare + 1
  | .agg parts => uptoBulkAll parts + 1
  | .iface _ d => uptoBulk d + 1
  | .map entries => uptoBulkEntries entries + 1
  | .held _ => 1
def uptoBulkAll {H : Type} : List (DataW H) → Nat
  | [] => 0
  | d :: r => uptoBulk d + uptoBulkAll r
def uptoBulkEntries {H : Type} : List (Lit × DataW H) → Nat
  | [] => 0
  | x :: r => uptoBulkEntry x + uptoBulkEntries r
def uptoBulkEntry {H : Type} : Lit × DataW H → Nat
  | (.string bytes, d) => bytes.length + uptoBulk d + 1
  | (_, d) => uptoBulk d + 1
 end
def uptoSmall : (H : Type) → List (DataW H) → Bool := fun _ ds => decide (uptoBulkAll ds ≤ 1048576)
def OpenSpec.upto (s : _root_.Go.ChangeSpec) : _root_.Go.OpenSpec := { _root_.Go.OpenSpec.ofChange s with cond := some uptoSmall }

/-- 'lethelaw01.WireOneForm', WHERE WHAT IT READS IS OF BULK AT MOST 1048576: true; the input reads as it did. -/
def wireOneFormUptoRow : OpenClaim := { program := "ytkceaepbjdfccaa", sum := "b17390db4f6aecc76e75d77b499b4e3d8285bee54ef5718b0b95b91650c63112", func := "lethe/lethelaw01.WireOneForm", spec := "wireOneForm", apart := false, narrowed := true }
def WireOneFormUptoSaid : Prop := wireOneFormUptoRow.holds Try.pinned (OpenSpec.upto wireOneFormSpec)

/-- 'lethelaw01.WireJoins', WHERE WHAT IT READS IS OF BULK AT MOST 1048576: true; the input reads as it did. -/
def wireJoinsUptoRow : OpenClaim := { program := "ytkceaepbjdfccaa", sum := "b17390db4f6aecc76e75d77b499b4e3d8285bee54ef5718b0b95b91650c63112", func := "lethe/lethelaw01.WireJoins", spec := "wireJoins", apart := false, narrowed := true }
def WireJoinsUptoSaid : Prop := wireJoinsUptoRow.holds Try.pinned (OpenSpec.upto wireJoinsSpec)

/-- 'lethelaw18.StateRules', WHERE WHAT IT READS IS OF BULK AT MOST 1048576: true; the input reads as it did. -/
def stateRulesUptoRow : OpenClaim := { program := "ytkceaepbjdfccaa", sum := "b17390db4f6aecc76e75d77b499b4e3d8285bee54ef5718b0b95b91650c63112", func := "lethe/lethelaw18.StateRules", spec := "stateRules", apart := false, narrowed := true }
def StateRulesUptoSaid : Prop := stateRulesUptoRow.holds Try.pinned (OpenSpec.upto stateRulesSpec)

/-- 'lethelaw01.WireBack', WHERE WHAT IT READS IS OF BULK AT MOST 1048576: true; the input reads as it did. -/
def wireBackUptoRow : OpenClaim := { program := "ytkceaepbjdfccaa", sum := "b17390db4f6aecc76e75d77b499b4e3d8285bee54ef5718b0b95b91650c63112", func := "lethe/lethelaw01.WireBack", spec := "wireBack", apart := false, narrowed := true }
def WireBackUptoSaid : Prop := wireBackUptoRow.holds Try.pinned (OpenSpec.upto wireBackSpec)

/-- 'lethelaw01.WireFaults', WHERE WHAT IT READS IS OF BULK AT MOST 1048576: true; the input reads as it did. -/
def wireFaultsUptoRow : OpenClaim := { program := "ytkceaepbjdfccaa", sum := "b17390db4f6aecc76e75d77b499b4e3d8285bee54ef5718b0b95b91650c63112", func := "lethe/lethelaw01.WireFaults", spec := "wireFaults", apart := false, narrowed := true }
def WireFaultsUptoSaid : Prop := wireFaultsUptoRow.holds Try.pinned (OpenSpec.upto wireFaultsSpec)

/-- 'lethelaw18.StateLimits', WHERE WHAT IT READS IS OF BULK AT MOST 1048576: true; the input reads as it did. -/
def stateLimitsUptoRow : OpenClaim := { program := "ytkceaepbjdfccaa", sum := "b17390db4f6aecc76e75d77b499b4e3d8285bee54ef5718b0b95b91650c63112", func := "lethe/lethelaw18.StateLimits", spec := "stateLimits", unfollowed := true, recurses := true, apart := false, narrowed := true }
def StateLimitsUptoSaid : Prop := stateLimitsUptoRow.holds Try.pinned (OpenSpec.upto stateLimitsSpec)

/-- 'lethelaw01.WireExact', WHERE WHAT IT READS IS OF BULK AT MOST 1048576: true; the input reads as it did. -/
def wireExactUptoRow : OpenClaim := { program := "ytkceaepbjdfccaa", sum := "b17390db4f6aecc76e75d77b499b4e3d8285bee54ef5718b0b95b91650c63112", func := "lethe/lethelaw01.WireExact", spec := "wireExact", apart := false, narrowed := true }
def WireExactUptoSaid : Prop := wireExactUptoRow.holds Try.pinned (OpenSpec.upto wireExactSpec)

end Rows
end Go.Proofs.Ytkceaepbjdfccaa
