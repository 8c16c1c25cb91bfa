/-
The digits of a safety number, as plain lists.
-/
import Derived.Test.YtkceaepbjdfccaaDoorSha7
namespace Go.Proofs.YtkceaepbjdfccaaDoor
open Go.RowKit
theorem i64_or8 (n c : Int) (h0 : 0 ≤ n) (h1 : n < 4294967296) (h2 : 0 ≤ c) (h3 : c < 256) : bits .or .i64 (n * 256) c = n * 256 + c := by
  obtain ⟨A, rfl⟩ := Int.eq_ofNat_of_zero_le h0
  obtain ⟨B, rfl⟩ := Int.eq_ofNat_of_zero_le h2
  have hA : A < 4294967296 := by omega
  have hB : B < 256 := by omega
  have ho : A * 256 ||| B = A * 256 + B := by
    have h := Nat.two_pow_add_eq_or_of_lt (i := 8) (b := B) (by omega) A
    rw [Nat.mul_comm A 256]; exact h.symm
  have e1 : (BitVec.ofInt 64 (((A * 256 : Nat) : Int))).toNat = A * 256 := by
    rw [BitVec.ofInt_natCast, BitVec.toNat_ofNat]; exact Nat.mod_eq_of_lt (by omega)
  have e2 : (BitVec.ofInt 64 ((B : Nat) : Int)).toNat = B := by
    rw [BitVec.ofInt_natCast, BitVec.toNat_ofNat]; exact Nat.mod_eq_of_lt (by omega)
  show IntKind.i64.wrap ((BitVec.ofInt 64 ((A : Int) * 256) ||| BitVec.ofInt 64 (B : Int)).toNat : Int) = _
  rw [show ((A : Int) * 256) = ((A * 256 : Nat) : Int) by omega, BitVec.toNat_or, e1, e2, ho]
  rw [IntWalk.i64_in _ (by omega)]
  omega
/-- numbers that are bytes -/
def Byts (d : List Int) : Prop := ∀ i : Nat, 0 ≤ d.getD i 0 ∧ d.getD i 0 < 256
theorem byts_of_mem {d : List Int} (h : ∀ x ∈ d, 0 ≤ x ∧ x < 256) : Byts d := fun i => by
  rw [List.getD_eq_getElem?_getD]
  cases hi : d[i]? with
  | none => simp
  | some x => exact h x (List.mem_of_getElem? hi)
theorem mem_set_or {l : List Int} {i : Nat} {a x : Int} (h : x ∈ l.set i a) : x ∈ l ∨ x = a := by
  rcases List.mem_or_eq_of_mem_set h with h | h
  · exact .inl h
  · exact .inr h
theorem outw_mem (st : List Int) : ∀ i, ∀ x ∈ outw st i, 0 ≤ x ∧ x < 256
  | 0, x, h => by
    have := List.eq_of_mem_replicate h
    omega
  | i + 1, x, h => by
    rcases mem_set_or h with h | rfl
    · rcases mem_set_or h with h | rfl
      · rcases mem_set_or h with h | rfl
        · rcases mem_set_or h with h | rfl
          · exact outw_mem st i x h
          · omega
        · omega
      · omega
    · omega
theorem sha_mem (kk bg m : List Int) : ∀ x ∈ sha kk bg m, 0 ≤ x ∧ x < 256 := outw_mem _ _
/-- the g-th five bytes as a number, j of them read -/
def num5 (d : List Int) (g : Nat) : Nat → Int
  | 0 => 0
  | j + 1 => num5 d g j * 256 + d.getD (5 * g + j) 0
theorem num5_bd {d : List Int} (h : Byts d) (g : Nat) : ∀ j, 0 ≤ num5 d g j ∧ num5 d g j < 256 ^ j
  | 0 => by simp [num5]
  | j + 1 => by
    have h1 := num5_bd h g j
    have h2 := h (5 * g + j)
    simp only [num5, Int.pow_succ]
    omega
theorem num5_small {d : List Int} (h : Byts d) (g j : Nat) (hj : j < 5) : 0 ≤ num5 d g j ∧ num5 d g j < 4294967296 := by
  have h1 := num5_bd h g j
  have h2 : (256 : Int) ^ j ≤ 4294967296 := by
    have : j = 0 ∨ j = 1 ∨ j = 2 ∨ j = 3 ∨ j = 4 := by omega
    rcases this with rfl | rfl | rfl | rfl | rfl <;> decide
  omega
theorem num5_five {d : List Int} (h : Byts d) (g : Nat) : 0 ≤ num5 d g 5 ∧ num5 d g 5 < 1099511627776 := by
  have h1 := num5_bd h g 5
  have h2 : (256 : Int) ^ 5 = 1099511627776 := by decide
  omega
/-- one digit of five -/
def digit (n by_ : Int) : UInt8 := UInt8.ofNat (48 + n / by_ % 10).toNat
theorem bval_digit (n by_ : Int) : bval (digit n by_) = .int .u8 (48 + n / by_ % 10) := by
  unfold digit
  exact u8_ofInt _ (by omega) (by omega)
theorem digit_val (n by_ : Int) : ((digit n by_).toNat : Int) = 48 + n / by_ % 10 := by
  have h := bval_digit n by_
  simp only [bval, Value.int.injEq, true_and] at h
  exact h
def five (n : Int) : List UInt8 := [digit n 10000, digit n 1000, digit n 100, digit n 10, digit n 1]
theorem five_len (n : Int) : (five n).length = 5 := rfl
/-- the digits of so many groups -/
def halfL (d : List Int) : Nat → List UInt8
  | 0 => []
  | g + 1 => halfL d g ++ five (num5 d g 5)
theorem halfL_len (d : List Int) : ∀ g, (halfL d g).length = 5 * g
  | 0 => rfl
  | g + 1 => by rw [halfL, List.length_append, halfL_len d g, five_len]; omega
/-- the hashes, one behind the other -/
def chain (kk bg nm key : List Int) : Nat → List Int
  | 0 => sha kk bg ([1, (nm.length : Int)] ++ nm ++ key)
  | i + 1 => sha kk bg (chain kk bg nm key i ++ key)
theorem chain_len (kk bg nm key : List Int) : ∀ i, (chain kk bg nm key i).length = 32
  | 0 => sha_len _ _ _
  | _ + 1 => sha_len _ _ _
theorem chain_byts (kk bg nm key : List Int) : ∀ i, Byts (chain kk bg nm key i)
  | 0 => byts_of_mem (sha_mem _ _ _)
  | _ + 1 => byts_of_mem (sha_mem _ _ _)
/-- thirty digits -/
def half (kk bg nm key : List Int) : List UInt8 := halfL (chain kk bg nm key 15) 6
theorem half_len (kk bg nm key : List Int) : (half kk bg nm key).length = 30 := halfL_len _ _
/-- a string's bytes as numbers -/
def nums (s : ByteArray) : List Int := s.data.toList.map fun x => (x.toNat : Int)
theorem nums_len (s : ByteArray) : (nums s).length = s.size := by rw [nums, List.length_map]; exact Array.length_toList
end Go.Proofs.YtkceaepbjdfccaaDoor
