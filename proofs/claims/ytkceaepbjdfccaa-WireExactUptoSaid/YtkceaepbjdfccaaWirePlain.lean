/-
Plain facts on hexadecimal digits, on lists alone.
-/
import Derived.Test.YtkceaepbjdfccaaWire2
namespace Go.Proofs.Ytkceaepbjdfccaa
theorem digI_hexD (n : Nat) (h : n < 16) : digI ((hexD n).toNat : Int) = n := by
  have : n = 0 ∨ n = 1 ∨ n = 2 ∨ n = 3 ∨ n = 4 ∨ n = 5 ∨ n = 6 ∨ n = 7 ∨ n = 8 ∨ n = 9 ∨ n = 10 ∨ n = 11 ∨ n = 12 ∨ n = 13 ∨ n = 14 ∨ n = 15 := by omega
  rcases this with rfl | rfl | rfl | rfl | rfl | rfl | rfl | rfl | rfl | rfl | rfl | rfl | rfl | rfl | rfl | rfl <;> rfl
theorem hexD_digI (c : UInt8) (h : digI (c.toNat : Int) ≤ 15) : hexD (digI (c.toNat : Int)).toNat = c := by
  have hr : (48 ≤ c.toNat ∧ c.toNat ≤ 57) ∨ (97 ≤ c.toNat ∧ c.toNat ≤ 102) := by
    unfold digI at h
    split at h
    · omega
    · split at h <;> omega
  have hc : c = UInt8.ofNat c.toNat := by simp
  generalize c.toNat = n at *
  subst hc
  have : n = 48 ∨ n = 49 ∨ n = 50 ∨ n = 51 ∨ n = 52 ∨ n = 53 ∨ n = 54 ∨ n = 55 ∨ n = 56 ∨ n = 57 ∨ n = 97 ∨ n = 98 ∨ n = 99 ∨ n = 100 ∨ n = 101 ∨ n = 102 := by omega
  rcases this with rfl | rfl | rfl | rfl | rfl | rfl | rfl | rfl | rfl | rfl | rfl | rfl | rfl | rfl | rfl | rfl <;> rfl
theorem unhexL_hexL (l : List UInt8) : unhexL (hexL l) = some l := by
  induction l with
  | nil => rfl
  | cons x r ih =>
    have h1 : x.toNat / 16 < 16 := by have := x.toNat_lt; omega
    have h2 : x.toNat % 16 < 16 := by omega
    simp only [hexL, unhexL]
    rw [digI_hexD _ h1, digI_hexD _ h2, if_pos (by omega), ih]
    simp only [Option.map_some, Option.some.injEq, List.cons.injEq, and_true, Int.toNat_natCast]
    rw [show 16 * (x.toNat / 16) + x.toNat % 16 = x.toNat by omega]
    simp
theorem hexL_unhexL : ∀ (l d : List UInt8), unhexL l = some d → hexL d = l
  | [], d, h => by simp only [unhexL, Option.some.injEq] at h; subst h; rfl
  | [_], d, h => by simp [unhexL] at h
  | x :: y :: r, d, h => by
    simp only [unhexL] at h
    split at h
    · rename_i hc
      obtain ⟨e, he, rfl⟩ := Option.map_eq_some_iff.1 h
      have ih := hexL_unhexL r e he
      have a0 := digI_lo (x.toNat : Int)
      have b0 := digI_lo (y.toNat : Int)
      have hx := hexD_digI x hc.1
      have hy := hexD_digI y hc.2
      simp only [hexL, ih]
      have hb : (UInt8.ofNat (16 * (digI (x.toNat : Int)).toNat + (digI (y.toNat : Int)).toNat)).toNat = 16 * (digI (x.toNat : Int)).toNat + (digI (y.toNat : Int)).toNat := by
        rw [UInt8.toNat_ofNat']; omega
      rw [hb, show (16 * (digI (x.toNat : Int)).toNat + (digI (y.toNat : Int)).toNat) / 16 = (digI (x.toNat : Int)).toNat by omega,
        show (16 * (digI (x.toNat : Int)).toNat + (digI (y.toNat : Int)).toNat) % 16 = (digI (y.toNat : Int)).toNat by omega, hx, hy]
    · cases h
end Go.Proofs.Ytkceaepbjdfccaa
