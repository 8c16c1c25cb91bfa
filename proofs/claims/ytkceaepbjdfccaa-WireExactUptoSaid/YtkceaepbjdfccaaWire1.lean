/-
What wire.Hex, wire.Unhex, wire.Join, wire.Same, wire.Blank, wire.Wipe and the law's own Eq and rest come to.
-/
import Derived.Test.YtkceaepbjdfccaaProg
import Derived.Test.YtkceaepbjdfccaaBase
namespace Go.Proofs.Ytkceaepbjdfccaa
open Go.RowKit

theorem el_u8 : El Try.prog 22 5 (.int .u8 0) 1 := ⟨by kernel_rfl, by kernel_rfl, rfl⟩
theorem und_bytes : Try.prog.underlying 22 = some (.slice 5) := by kernel_rfl
theorem und_u8 : Try.prog.underlying 5 = some (.int .u8) := by kernel_rfl
theorem und_str : Try.prog.underlying 9 = some .string := by kernel_rfl
theorem conv_str {w : World} {v : Value} {l : List UInt8} (h : Rd w v (bv l)) : (convert 22 9 v).run Try.prog w = .ok (.string (strOf l)) w :=
  run_str und_bytes und_u8 und_str h

def hexD (n : Nat) : UInt8 := #[48, 49, 50, 51, 52, 53, 54, 55, 56, 57, 97, 98, 99, 100, 101, 102].getD n 0
def hexL : List UInt8 → List UInt8
  | [] => []
  | x :: r => hexD (x.toNat / 16) :: hexD (x.toNat % 16) :: hexL r
theorem hexL_append (l m : List UInt8) : hexL (l ++ m) = hexL l ++ hexL m := by
  induction l with
  | nil => rfl
  | cons x r ih => simp [hexL, ih]
theorem hexL_length (l : List UInt8) : (hexL l).length = 2 * l.length := by
  induction l with
  | nil => rfl
  | cons x r ih => simp [hexL, ih]; omega
theorem hexD_at (n : Nat) (h : n < (ByteArray.mk #[48, 49, 50, 51, 52, 53, 54, 55, 56, 57, 97, 98, 99, 100, 101, 102]).size) : (ByteArray.mk #[48, 49, 50, 51, 52, 53, 54, 55, 56, 57, 97, 98, 99, 100, 101, 102])[n] = hexD n := by
  have h' : n < 16 := h
  have : n = 0 ∨ n = 1 ∨ n = 2 ∨ n = 3 ∨ n = 4 ∨ n = 5 ∨ n = 6 ∨ n = 7 ∨ n = 8 ∨ n = 9 ∨ n = 10 ∨ n = 11 ∨ n = 12 ∨ n = 13 ∨ n = 14 ∨ n = 15 := by omega
  rcases this with rfl | rfl | rfl | rfl | rfl | rfl | rfl | rfl | rfl | rfl | rfl | rfl | rfl | rfl | rfl | rfl <;> rfl
theorem hexL_take (l : List UInt8) (k : Nat) (h : k < l.length) : hexL (l.take (k + 1)) = hexL (l.take k) ++ [hexD (l[k].toNat / 16), hexD (l[k].toNat % 16)] := by
  rw [List.take_succ_eq_append_getElem h, hexL_append]; rfl

set_option maxRecDepth 100000 in
set_option maxHeartbeats 400000 in
theorem hex_any (v : Value) (l : List UInt8) (w : World) (hs : l.length ≤ 140737488351232) (hc : Rd w v (bv l)) :
    Calls Try.prog 10 #[v] w fun e w' => e = .returned (.string (strOf (hexL l))) ∧ Kp [] w w' := by
  obtain ⟨ao, cap, rfl, hcap, hnil, hcc⟩ := id hc
  have hlen := bv_length l
  rw [hlen] at hc ⊢
  clear hcap hnil hcc hlen
  go_enter Try.func10, Try.ntmps10
  go_wp2_with (first | (at_make; refine wpl_make0 el_u8 rfl _ _ rfl _ _ _ (2 * l.length) rfl rfl (by omega) (by omega) (by omega) ?_) | fail)
  intro w1 hown hgrow hsz
  go_wp2_with fail
  go_loopw [3, 12] (fun out i wr => ∃ k : Nat, k ≤ l.length ∧ i = .int .i64 k ∧ out = .slice (some ⟨w.heap.size, 0, none⟩) (2 * k) (2 * l.length) ∧ Own wr w.heap.size 5 out (bv (hexL (l.take k))) ∧ Kp [] w wr ∧ w.heap.size < wr.heap.size) (fun _ i _ => l.length - (intOf i).toNat)
  case atStart => exact ⟨0, Nat.zero_le _, rfl, rfl, hown, Kp.of_grown0 hgrow, hsz⟩
  case round =>
    obtain ⟨k, hk, rfl, rfl, hown, hb, hsz⟩ := hrel
    have HO := Lib.hid hown
    have hcw := hc.kp0 hb
    by_cases hlt : k < l.length
    · obtain ⟨b, off, hao, hx, hck⟩ := hcw.byte hlt
      obtain ⟨x, HX⟩ : ∃ x : Int, Hid (x = (l[k].toNat : Int)) := ⟨_, Lib.hid rfl⟩
      rw [← HX.out] at hck
      have hx0 : 0 ≤ x := by have := HX.out; omega
      have hx1 : x < 256 := by have := HX.out; have := u8_lt l[k]; omega
      subst hao
      have hq0 : 0 ≤ x / 16 := by omega
      have hq1 : x / 16 < 16 := by omega
      have hr0 : 0 ≤ x % 16 := by omega
      have hr1 : x % 16 < 16 := by omega
      have hbit : bits BinOp.and IntKind.u8 x 15 = x % 16 := u8_and15 x hx0 hx1
      clear hown hgrow
      go_wp2_with fail
      go_region_law (refine step_append_fits el_u8 rfl _ _ rfl (B := w.heap.size) rfl rfl (HO.out.kp0 (((Kp.refl [] wr).drew).alloc _)) (rd_lit2 _ _ _ _) (by simp [Value.oneCell']) (by simp only [List.length_cons, List.length_nil]; omega) ?_; intro w2 ho2 hg2)
      all_goals
        have HB := (hb.alloc _).drew.grown hg2 (fun k hk => by cases hk; exact .inr (Nat.le_refl _))
        have hsz2 : w.heap.size < w2.heap.size := by have := hg2.size; simp at this; omega
        have HO2 := Lib.hid ho2
        clear ho2 hg2
        go_wp2_with fail
        go_roundw
        case rel =>
          refine ⟨k + 1, by omega, by go_num, by rw [Nat.mul_add], ?_, HB, hsz2⟩
          have h := HO2.out
          simp only [hexD_at] at h
          rw [hexL_take l k hlt, bv_append]
          rw [show (x / 16).toNat = l[k].toNat / 16 by rw [HX.out]; omega, show (x % 16).toNat = l[k].toNat % 16 by rw [HX.out]; omega] at h
          exact h
        case measure => simp [intOf]; omega
    · have hkl : k = l.length := by omega
      have hcv : (convert 22 9 (.slice (some ⟨w.heap.size, 0, none⟩) (2 * k) (2 * l.length))).run Try.prog wr = .ok (.string (strOf (hexL l))) wr := by
        refine conv_str ?_
        have h := hown.rd
        rwa [List.take_of_length_le (by omega)] at h
      clear hown hgrow HO hkl
      go_wp2_with fail
      go_ret
      exact ⟨rfl, hb⟩

end Go.Proofs.Ytkceaepbjdfccaa
