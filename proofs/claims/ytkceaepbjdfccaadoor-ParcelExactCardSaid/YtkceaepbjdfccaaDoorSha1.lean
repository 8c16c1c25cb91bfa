/-
sha.right: a rotation.
-/
import Derived.Test.YtkceaepbjdfccaaDoorProg
import Derived.Test.YtkceaepbjdfccaaDoorBase
namespace Go.Proofs.YtkceaepbjdfccaaDoor
open Go.RowKit
/-- x, turned to the right by n -/
def ror (n x : Int) : Int := bits .or .u32 (x * 2 ^ (32 - n).toNat % 4294967296) (x / 2 ^ n.toNat)
theorem rot_amount (n : Int) (h0 : 1 ≤ n) (h1 : n ≤ 31) : bits .and .u64 (IntKind.u64.wrap (-n)) 31 = 32 - n := by
  have hn : n = 1 ∨ n = 2 ∨ n = 3 ∨ n = 4 ∨ n = 5 ∨ n = 6 ∨ n = 7 ∨ n = 8 ∨ n = 9 ∨ n = 10 ∨ n = 11 ∨ n = 12 ∨ n = 13 ∨ n = 14 ∨ n = 15 ∨ n = 16 ∨ n = 17 ∨ n = 18 ∨ n = 19 ∨ n = 20 ∨ n = 21 ∨ n = 22 ∨ n = 23 ∨ n = 24 ∨ n = 25 ∨ n = 26 ∨ n = 27 ∨ n = 28 ∨ n = 29 ∨ n = 30 ∨ n = 31 := by omega
  rcases hn with rfl | rfl | rfl | rfl | rfl | rfl | rfl | rfl | rfl | rfl | rfl | rfl | rfl | rfl | rfl | rfl | rfl | rfl | rfl | rfl | rfl | rfl | rfl | rfl | rfl | rfl | rfl | rfl | rfl | rfl | rfl <;> decide
set_option maxRecDepth 100000 in
set_option maxHeartbeats 400000 in
theorem rotl_any (x k n : Int) (h0 : 1 ≤ n) (h1 : n ≤ 31) (hk : k = -n) (w : World) :
    Calls Tryd.prog 90 #[.int .u32 x, .int .i64 k] w fun e w' => e = .returned (.int .u32 (ror n x)) ∧ w = w' := by
  have ha : bits .and .u64 (IntKind.u64.wrap k) 31 = 32 - n := by rw [hk]; exact rot_amount n h0 h1
  have hs0 : 0 ≤ 32 - n := by omega
  have hs1 : 32 - n ≤ 32 := by omega
  have hw : IntKind.u64.wrap (32 - (32 - n)) = n := by rw [IntKind.wrap_u64]; omega
  have hn0 : 0 ≤ n := by omega
  have hn1 : n ≤ 32 := by omega
  clear hk
  go_enter Tryd.func90, Tryd.ntmps90
  go_wp2_with fail
  go_ret
  exact ⟨rfl, rfl⟩
set_option maxRecDepth 100000 in
set_option maxHeartbeats 400000 in
theorem right_any (n x : Int) (h0 : 1 ≤ n) (h1 : n ≤ 31) (w : World) :
    Calls Tryd.prog 82 #[.int .i64 n, .int .u32 x] w fun e w' => e = .returned (.int .u32 (ror n x)) ∧ w = w' := by
  have hw : IntKind.i64.wrap (-n) = -n := IntWalk.i64_in _ (by omega)
  go_enter Tryd.func82, Tryd.ntmps82
  go_wp2_with fail
  refine (rotl_any x _ n h0 h1 (by first | rfl | exact hw | skip) w).mono ?_
  rintro e w' ⟨rfl, rfl⟩
  go_wp2_with fail
  go_ret
  exact ⟨rfl, rfl⟩
end Go.Proofs.YtkceaepbjdfccaaDoor
