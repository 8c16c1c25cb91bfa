/-
What wire.Hex, wire.Unhex, wire.Join, wire.Same, wire.Blank, wire.Wipe and the law's own Eq and rest come to.
-/
import Derived.Test.YtkceaepbjdfccaaDoorProg
import Derived.Test.YtkceaepbjdfccaaDoorBase
namespace Go.Proofs.YtkceaepbjdfccaaDoor
open Go.RowKit

theorem el_u8 : El Tryd.prog 27 5 (.int .u8 0) 1 := ⟨by kernel_rfl, by kernel_rfl, rfl⟩
theorem und_bytes : Tryd.prog.underlying 27 = some (.slice 5) := by kernel_rfl
theorem und_u8 : Tryd.prog.underlying 5 = some (.int .u8) := by kernel_rfl
theorem und_str : Tryd.prog.underlying 9 = some .string := by kernel_rfl
theorem conv_str {w : World} {v : Value} {l : List UInt8} (h : Rd w v (bv l)) : (convert 27 9 v).run Tryd.prog w = .ok (.string (strOf l)) w :=
  run_str und_bytes und_u8 und_str h

def hexD (n : Nat) : UInt8 := #[48, 49, 50, 51, 52, 53, 54, 55, 56, 57, 97, 98, 99, 100, 101, 102].getD n 0
def hexL : List UInt8 → List UInt8
  | [] => []
  | x :: r => hexD (x.toNat / 16) :: hexD (x.toNat % 16) :: hexL r
theorem hexL_append (l m : List UInt8) : hexL (l ++ m) = hexL l ++ hexL m := by
  induction l with
  | nil => rfl
  | cons x r ih => simp [hexL, ih]
theorem hexL_length (l : List UInt8) : (hexL l).length = 2 * l.length := by
  induction l with
  | nil => rfl
  | cons x r ih => simp [hexL, ih]; omega
theorem hexD_at (n : Nat) (h : n < (ByteArray.mk #[48, 49, 50, 51, 52, 53, 54, 55, 56, 57, 97, 98, 99, 100, 101, 102]).size) : (ByteArray.mk #[48, 49, 50, 51, 52, 53, 54, 55, 56, 57, 97, 98, 99, 100, 101, 102])[n] = hexD n := by
  have h' : n < 16 := h
  have : n = 0 ∨ n = 1 ∨ n = 2 ∨ n = 3 ∨ n = 4 ∨ n = 5 ∨ n = 6 ∨ n = 7 ∨ n = 8 ∨ n = 9 ∨ n = 10 ∨ n = 11 ∨ n = 12 ∨ n = 13 ∨ n = 14 ∨ n = 15 := by omega
  rcases this with rfl | rfl | rfl | rfl | rfl | rfl | rfl | rfl | rfl | rfl | rfl | rfl | rfl | rfl | rfl | rfl <;> rfl
theorem hexL_take (l : List UInt8) (k : Nat) (h : k < l.length) : hexL (l.take (k + 1)) = hexL (l.take k) ++ [hexD (l[k].toNat / 16), hexD (l[k].toNat % 16)] := by
  rw [List.take_succ_eq_append_getElem h, hexL_append]; rfl

end Go.Proofs.YtkceaepbjdfccaaDoor
