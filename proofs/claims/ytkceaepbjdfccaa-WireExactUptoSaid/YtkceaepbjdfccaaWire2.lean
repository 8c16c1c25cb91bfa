/-
What wire.digit and the law's own rest and Eq come to.
-/
import Derived.Test.YtkceaepbjdfccaaWire1
namespace Go.Proofs.Ytkceaepbjdfccaa
open Go.RowKit

/-! digit, Unhex -/
def digI (c : Int) : Int := if 48 ≤ c ∧ c ≤ 57 then c - 48 else if 97 ≤ c ∧ c ≤ 102 then c - 87 else 16
theorem digI_lo (c : Int) : 0 ≤ digI c := by unfold digI; split <;> (try split) <;> omega
theorem digI_hi (c : Int) : digI c ≤ 16 := by unfold digI; split <;> (try split) <;> omega
set_option maxHeartbeats 400000 in
theorem digit_any (c : Int) (h0 : 0 ≤ c) (h1 : c < 256) (w : World) :
    Calls Try.prog 48 #[.int .u8 c] w fun e w' => e = .returned (.int .u8 (digI c)) ∧ w = w' := by
  by_cases a : 48 ≤ c
  · by_cases b : c ≤ 57
    · have e : digI c = c - 48 := by unfold digI; rw [if_pos ⟨a, b⟩]
      have E := Lib.hid e; clear e
      go_enter Try.func48, Try.ntmps48
      go_wp2
      go_ret
      exact ⟨by rw [E.out]; rfl, rfl⟩
    · by_cases d : 97 ≤ c
      · by_cases f : c ≤ 102
        · have e : digI c = c - 87 := by unfold digI; rw [if_neg (by omega), if_pos ⟨d, f⟩]
          have E := Lib.hid e; clear e
          go_enter Try.func48, Try.ntmps48
          go_wp2
          go_ret
          exact ⟨by rw [E.out, show c - 87 = c - 97 + 10 by omega]; rfl, rfl⟩
        · have e : digI c = 16 := by unfold digI; rw [if_neg (by omega), if_neg (by omega)]
          have E := Lib.hid e; clear e
          go_enter Try.func48, Try.ntmps48
          go_wp2
          go_ret
          exact ⟨by rw [E.out]; rfl, rfl⟩
      · have e : digI c = 16 := by unfold digI; rw [if_neg (by omega), if_neg (by omega)]
        have E := Lib.hid e; clear e
        go_enter Try.func48, Try.ntmps48
        go_wp2
        go_ret
        exact ⟨by rw [E.out]; rfl, rfl⟩
  · have e : digI c = 16 := by unfold digI; rw [if_neg (by omega), if_neg (by omega)]
    have E := Lib.hid e; clear e
    go_enter Try.func48, Try.ntmps48
    go_wp2
    go_ret
    exact ⟨by rw [E.out]; rfl, rfl⟩

def unhexL : List UInt8 → Option (List UInt8)
  | [] => some []
  | [_] => none
  | x :: y :: r => if digI x.toNat ≤ 15 ∧ digI y.toNat ≤ 15 then (unhexL r).map (UInt8.ofNat (16 * (digI x.toNat).toNat + (digI y.toNat).toNat) :: ·) else none
theorem or16 (A B : Int) (h0 : 0 ≤ A) (h1 : A ≤ 15) (h2 : 0 ≤ B) (h3 : B ≤ 15) : bits BinOp.or IntKind.u8 (A * 16) B = A * 16 + B := by
  rw [u8_or (A * 16) B (by omega) (by omega) (by omega) (by omega)]
  have h := Nat.two_pow_add_eq_or_of_lt (i := 4) (b := B.toNat) (by omega) A.toNat
  have e : (A * 16).toNat = 2 ^ 4 * A.toNat := by omega
  rw [e, ← h]; omega

/-! rest, Eq -/
theorem tmod_rest (n m : Int) (h : 0 < m) : (n.tmod m + m).tmod m = n % m := by
  have h1 : -m < n.tmod m := by
    by_cases h0 : 0 ≤ n
    · have := Int.tmod_nonneg m h0; omega
    · have h2 : (-n).tmod m < m := Int.tmod_lt_of_pos _ h
      rw [Int.neg_tmod] at h2; omega
  rw [Int.tmod_eq_emod_of_nonneg (by omega), Int.tmod_def, Int.add_emod_right, Int.sub_mul_emod_self_left]
theorem tmod_lt (n m : Int) (h : 0 < m) : n.tmod m < m := Int.tmod_lt_of_pos _ h
theorem tmod_gt (n m : Int) (h : 0 < m) : -m < n.tmod m := by
  by_cases h0 : 0 ≤ n
  · have := Int.tmod_nonneg m h0; omega
  · have h2 : (-n).tmod m < m := Int.tmod_lt_of_pos _ h
    rw [Int.neg_tmod] at h2; omega
theorem rest_any (n m : Int) (h0 : 0 < m) (h1 : m ≤ 4611686018427387904) (w : World) :
    Calls Try.prog 13 #[.int .i64 n, .int .i64 m] w fun e w' => e = .returned (.int .i64 (n % m)) ∧ w = w' := by
  have H : Hid ((n.tmod m + m) % m = n % m) := by
    rw [← tmod_rest n m h0]; have := tmod_gt n m h0; exact (Int.tmod_eq_emod_of_nonneg (by omega)).symm
  have h2 := tmod_lt n m h0
  have h3 := tmod_gt n m h0
  have h4 : wrap64 (n.tmod m + m) = n.tmod m + m := by unfold wrap64; omega
  go_enter Try.func13, Try.ntmps13
  go_wp2
  go_ret
  exact ⟨by rw [← H.out]; rfl, rfl⟩
theorem strOf_beq (l m : List UInt8) : ((strOf l).toList == (strOf m).toList) = decide (l = m) := by
  rw [ByteArray.toList_eq, ByteArray.toList_eq, strOf_toList, strOf_toList, Bool.eq_iff_iff]; simp
theorem eq_any (x y : Value) (l m : List UInt8) (w : World) (hx : Rd w x (bv l)) (hy : Rd w y (bv m)) :
    Calls Try.prog 12 #[x, y] w fun e w' => e = .returned (.bool (decide (l = m))) ∧ w = w' := by
  have h1 := conv_str hx
  have h2 := conv_str hy
  go_enter Try.func12, Try.ntmps12
  go_wp2
  go_ret
  exact ⟨by rw [← strOf_beq]; rfl, rfl⟩

end Go.Proofs.Ytkceaepbjdfccaa
