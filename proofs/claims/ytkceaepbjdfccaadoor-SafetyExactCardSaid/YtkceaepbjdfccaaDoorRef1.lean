/-
letheref02.turn, letheref02.move: rotations and shifts by division.
-/
import Derived.Test.YtkceaepbjdfccaaDoorSha1
import Derived.Laws.BitsLemmas
namespace Go.Proofs.YtkceaepbjdfccaaDoor
open Go.RowKit
/-- one turn -/
def turn1 (x : Int) : Int := x / 2 + x % 2 * 2147483648
/-- so many turns -/
def turns (x : Int) : Nat → Int
  | 0 => x
  | n + 1 => turn1 (turns x n)
/-- so many moves -/
def moves (x : Int) : Nat → Int
  | 0 => x
  | n + 1 => moves x n / 2
theorem turns_rng (x : Int) (h0 : 0 ≤ x) (h1 : x < 4294967296) : ∀ n, 0 ≤ turns x n ∧ turns x n < 4294967296
  | 0 => ⟨h0, h1⟩
  | n + 1 => by
    have := turns_rng x h0 h1 n
    show 0 ≤ turn1 (turns x n) ∧ turn1 (turns x n) < 4294967296
    unfold turn1
    omega
theorem moves_rng (x : Int) (h0 : 0 ≤ x) (h1 : x < 4294967296) : ∀ n, 0 ≤ moves x n ∧ moves x n < 4294967296
  | 0 => ⟨h0, h1⟩
  | n + 1 => by
    have := moves_rng x h0 h1 n
    show 0 ≤ moves x n / 2 ∧ moves x n / 2 < 4294967296
    omega
set_option maxRecDepth 100000 in
theorem turn_any (n : Nat) (x : Int) (hn : n ≤ 1000) (h0 : 0 ≤ x) (h1 : x < 4294967296) (w : World) :
    Calls Tryd.prog 92 #[.int .i64 n, .int .u64 x] w fun e w' => e = .returned (.int .u64 (turns x n)) ∧ w = w' := by
  go_enter Tryd.func92, Tryd.ntmps92
  go_wp2_with fail
  go_loopw [1, 5] (fun v i wr => ∃ k : Nat, k ≤ n ∧ i = .int .i64 k ∧ v = .int .u64 (turns x k) ∧ w = wr) (fun _ i _ => n - (intOf i).toNat)
  case atStart => exact ⟨0, Nat.zero_le _, rfl, rfl, rfl⟩
  case round =>
    obtain ⟨k, hk, rfl, rfl, rfl⟩ := hrel
    have hr := turns_rng x h0 h1 k
    by_cases hlt : k < n
    · have hlt' : (k : Int) < (n : Int) := by omega
      have HE : Hid (turns x (k + 1) = turns x k / 2 + turns x k % 2 * 2147483648) := Lib.hid rfl
      generalize turns x k = y at *
      have v1 : IntKind.u64.wrap (y % 2 * 2147483648) = y % 2 * 2147483648 := by rw [IntKind.wrap_u64]; omega
      have v2 : IntKind.u64.wrap (y / 2 + y % 2 * 2147483648) = y / 2 + y % 2 * 2147483648 := by rw [IntKind.wrap_u64]; omega
      go_wp2_with fail
      go_roundw
      case rel => exact ⟨k + 1, by omega, by go_num, by rw [HE.out], trivial⟩
      case measure => simp [intOf]; omega
    · have hlt' : ¬ (k : Int) < (n : Int) := by omega
      obtain rfl : k = n := by omega
      go_wp2_with fail
      go_ret
      exact ⟨rfl, rfl⟩
set_option maxRecDepth 100000 in
theorem move_any (n : Nat) (x : Int) (hn : n ≤ 1000) (h0 : 0 ≤ x) (h1 : x < 4294967296) (w : World) :
    Calls Tryd.prog 93 #[.int .i64 n, .int .u64 x] w fun e w' => e = .returned (.int .u64 (moves x n)) ∧ w = w' := by
  go_enter Tryd.func93, Tryd.ntmps93
  go_wp2_with fail
  go_loopw [1, 5] (fun v i wr => ∃ k : Nat, k ≤ n ∧ i = .int .i64 k ∧ v = .int .u64 (moves x k) ∧ w = wr) (fun _ i _ => n - (intOf i).toNat)
  case atStart => exact ⟨0, Nat.zero_le _, rfl, rfl, rfl⟩
  case round =>
    obtain ⟨k, hk, rfl, rfl, rfl⟩ := hrel
    have hr := moves_rng x h0 h1 k
    by_cases hlt : k < n
    · have hlt' : (k : Int) < (n : Int) := by omega
      have HE : Hid (moves x (k + 1) = moves x k / 2) := Lib.hid rfl
      generalize moves x k = y at *
      go_wp2_with fail
      go_roundw
      case rel => exact ⟨k + 1, by omega, by go_num, by rw [HE.out], trivial⟩
      case measure => simp [intOf]; omega
    · have hlt' : ¬ (k : Int) < (n : Int) := by omega
      obtain rfl : k = n := by omega
      go_wp2_with fail
      go_ret
      exact ⟨rfl, rfl⟩
theorem moves_eq (x : Int) : ∀ n, moves x n = x / 2 ^ n
  | 0 => by simp [moves]
  | n + 1 => by
    show moves x n / 2 = _
    rw [moves_eq x n, Int.ediv_ediv_of_nonneg (Int.pow_nonneg (by decide)), Int.pow_succ]
theorem turns_eq (x : Int) (h0 : 0 ≤ x) (h1 : x < 4294967296) : ∀ n, n ≤ 32 → turns x n = x / 2 ^ n + x % 2 ^ n * 2 ^ (32 - n)
  | 0, _ => by simp [turns]
  | n + 1, h => by
    show turn1 (turns x n) = _
    rw [turns_eq x h0 h1 n (by omega)]
    obtain ⟨m, hm⟩ : ∃ m, 32 - n = m + 1 := ⟨31 - n, by omega⟩
    have hm2 : 32 - (n + 1) = m := by omega
    have hnm : (2 : Int) ^ n * 2 ^ m = 2147483648 := by
      rw [← Int.pow_add, show n + m = 31 by omega]; decide
    rw [hm, hm2, Int.pow_succ, Int.pow_succ]
    have hP : (0 : Int) < 2 ^ n := Int.pow_pos (by decide)
    generalize (2 : Int) ^ n = P at *
    generalize (2 : Int) ^ m = R at *
    have e1 : x / (P * 2) = x / P / 2 := (Int.ediv_ediv_of_nonneg (by omega)).symm
    have e2 : x % (P * 2) = x % P + P * (x / P % 2) := by
      have a1 := Int.mul_ediv_add_emod x (P * 2)
      have a2 := Int.mul_ediv_add_emod x P
      have a3 := Int.mul_ediv_add_emod (x / P) 2
      rw [e1] at a1
      have a4 : P * (x / P) = P * 2 * (x / P / 2) + P * (x / P % 2) := by
        rw [Int.mul_assoc, ← Int.mul_add, a3]
      omega
    rw [e1, e2, Int.add_mul]
    unfold turn1
    have e3 : x % P * (R * 2) = 2 * (x % P * R) := by rw [← Int.mul_assoc, Int.mul_comm]
    have e4 : P * (x / P % 2) * R = x / P % 2 * 2147483648 := by rw [← hnm, Int.mul_comm P, Int.mul_assoc]
    rw [e3, e4]
    generalize x % P * R = z at *
    generalize x / P = y at *
    omega
theorem wraps_u32 (n : Int) (h₀ : 0 ≤ n) (h₁ : n < 2 ^ 32) : IntKind.u32.wrap n = n := by rw [IntKind.wrap_u32]; omega
/-- a rotation by turns -/
theorem turns_ror (x : Int) (h0 : 0 ≤ x) (h1 : x < 4294967296) (n : Nat) (hn : n ≤ 32) : turns x n = ror n x := by
  rw [turns_eq x h0 h1 n hn]
  unfold ror
  have t1 : (32 - (n : Int)).toNat = 32 - n := by omega
  rw [t1, Int.toNat_natCast]
  obtain ⟨m, hm⟩ : ∃ m, 32 - n = m := ⟨_, rfl⟩
  rw [hm]
  have hnm : (2 : Int) ^ m * 2 ^ n = 4294967296 := by
    rw [← Int.pow_add, show m + n = 32 by omega]; decide
  have hP : (0 : Int) < 2 ^ n := Int.pow_pos (by decide)
  have hQ : (0 : Int) < 2 ^ m := Int.pow_pos (by decide)
  have e1 : x * 2 ^ m % 4294967296 = 2 ^ m * (x % 2 ^ n) := by
    rw [← hnm, Int.mul_comm x, Int.mul_emod_mul_of_pos _ _ hQ]
  have hb := Int.emod_nonneg x (Int.ne_of_gt hP)
  have hb2 := Int.emod_lt_of_pos x hP
  have hy0 : 0 ≤ x / 2 ^ n := Int.ediv_nonneg h0 (Int.le_of_lt hP)
  have hy1 : x / 2 ^ n < 2 ^ m := Int.ediv_lt_of_lt_mul hP (by rw [hnm]; exact h1)
  have hz1 : 2 ^ m * (x % 2 ^ n) < 4294967296 := by rw [← hnm]; exact Int.mul_lt_mul_of_pos_left hb2 hQ
  have hz0 : 0 ≤ 2 ^ m * (x % 2 ^ n) := Int.mul_nonneg (Int.le_of_lt hQ) hb
  have hq32 : (2 : Int) ^ m ≤ 4294967296 := by
    rw [← hnm]
    have := Int.mul_le_mul_of_nonneg_left (show (1 : Int) ≤ 2 ^ n by omega) (Int.le_of_lt hQ)
    rwa [Int.mul_one] at this
  rw [e1, bits_join .u32 32 (by decide) wraps_u32 m _ _ hz0 (Int.mul_emod_right _ _) hz1 hy0 hy1 (by omega), Int.mul_comm (2 ^ m), Int.add_comm]
end Go.Proofs.YtkceaepbjdfccaaDoor
