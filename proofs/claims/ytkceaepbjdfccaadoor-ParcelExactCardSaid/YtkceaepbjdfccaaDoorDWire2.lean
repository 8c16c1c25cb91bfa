/-
What wire.digit and the law's own rest and Eq come to.
-/
import Derived.Test.YtkceaepbjdfccaaDoorDWire1
namespace Go.Proofs.YtkceaepbjdfccaaDoor
open Go.RowKit

/-! digit, Unhex -/
def digI (c : Int) : Int := if 48 ≤ c ∧ c ≤ 57 then c - 48 else if 97 ≤ c ∧ c ≤ 102 then c - 87 else 16
theorem digI_lo (c : Int) : 0 ≤ digI c := by unfold digI; split <;> (try split) <;> omega
theorem digI_hi (c : Int) : digI c ≤ 16 := by unfold digI; split <;> (try split) <;> omega
def unhexL : List UInt8 → Option (List UInt8)
  | [] => some []
  | [_] => none
  | x :: y :: r => if digI x.toNat ≤ 15 ∧ digI y.toNat ≤ 15 then (unhexL r).map (UInt8.ofNat (16 * (digI x.toNat).toNat + (digI y.toNat).toNat) :: ·) else none
theorem or16 (A B : Int) (h0 : 0 ≤ A) (h1 : A ≤ 15) (h2 : 0 ≤ B) (h3 : B ≤ 15) : bits BinOp.or IntKind.u8 (A * 16) B = A * 16 + B := by
  rw [u8_or (A * 16) B (by omega) (by omega) (by omega) (by omega)]
  have h := Nat.two_pow_add_eq_or_of_lt (i := 4) (b := B.toNat) (by omega) A.toNat
  have e : (A * 16).toNat = 2 ^ 4 * A.toNat := by omega
  rw [e, ← h]; omega

/-! rest, Eq -/
theorem tmod_rest (n m : Int) (h : 0 < m) : (n.tmod m + m).tmod m = n % m := by
  have h1 : -m < n.tmod m := by
    by_cases h0 : 0 ≤ n
    · have := Int.tmod_nonneg m h0; omega
    · have h2 : (-n).tmod m < m := Int.tmod_lt_of_pos _ h
      rw [Int.neg_tmod] at h2; omega
  rw [Int.tmod_eq_emod_of_nonneg (by omega), Int.tmod_def, Int.add_emod_right, Int.sub_mul_emod_self_left]
theorem tmod_lt (n m : Int) (h : 0 < m) : n.tmod m < m := Int.tmod_lt_of_pos _ h
theorem tmod_gt (n m : Int) (h : 0 < m) : -m < n.tmod m := by
  by_cases h0 : 0 ≤ n
  · have := Int.tmod_nonneg m h0; omega
  · have h2 : (-n).tmod m < m := Int.tmod_lt_of_pos _ h
    rw [Int.neg_tmod] at h2; omega
theorem strOf_beq (l m : List UInt8) : ((strOf l).toList == (strOf m).toList) = decide (l = m) := by
  rw [ByteArray.toList_eq, ByteArray.toList_eq, strOf_toList, strOf_toList, Bool.eq_iff_iff]; simp
end Go.Proofs.YtkceaepbjdfccaaDoor
