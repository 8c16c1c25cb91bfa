/-
lethelaw18.StateRules: each of the rules, broken alone, is told; for any state, rule and number.
-/
import Derived.Test.YtkceaepbjdfccaaSt8
namespace Go.Proofs.Ytkceaepbjdfccaa
open Go.RowKit
theorem rules_walk (S : St) (rule n : Int) (w : World) (hS : S.ok) (hn : 0 ≤ n ∧ n ≤ 4294967295) :
    Calls Try.prog 5 #[.agg S.cl.toArray, .int .i64 rule, .int .u32 n] w fun e w' => e = .returned (.bool true) ∧ Kp [] w w' :=
  rules_any S hS rule n ⟨hn.1, by omega⟩ w
end Go.Proofs.Ytkceaepbjdfccaa
