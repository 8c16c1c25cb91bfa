/-
The book's Holds.
-/
import Derived.Test.YtkceaepbjdfccaaWx11
namespace Go.Proofs.Ytkceaepbjdfccaa
open Go.RowKit
theorem eq_same (x y : Value) (l : List UInt8) (w : World) (hx : Rd w x (bv l)) (hy : Rd w y (bv l)) :
    Calls Try.prog 12 #[x, y] w fun e w' => e = .returned (.bool true) ∧ w = w' := by
  refine (eq_any x y l l w hx hy).mono ?_
  rintro e w' ⟨rfl, rfl⟩
  exact ⟨by simp, rfl⟩
set_option maxRecDepth 100000 in
set_option maxHeartbeats 1000000 in
theorem holds_any (w : World) (t : Nat) (lv wv : Value) (vl vw : List Value) (xs : List (List UInt8)) (F : Nat → Prop) (c8 : w.cell? ⟨t, 8, none⟩ = some lv) (c9 : w.cell? ⟨t, 9, none⟩ = some wv) (hl : Rd w lv vl) (hw : Rd w wv vw) (hI : Items w F vl vw xs) (hn : xs.length ≤ 1000) :
    Calls Try.prog 47 #[.pointer (some ⟨t, 8, none⟩)] w fun e w' => e = .returned (.bool true) ∧ ∃ n, w' = w.drewN n := by
  obtain ⟨la, lc, rfl⟩ := hl.form
  obtain ⟨wa, wq, rfl⟩ := hw.form
  rw [hI.1] at c8 hl
  rw [hI.2.1] at c9 hw
  have HI := Lib.hid hI
  have HL := Lib.hid hl
  have HW := Lib.hid hw
  clear hI hl hw
  go_enter Try.func47, Try.ntmps47
  go_wp2_with fail
  go_loopw [3] (fun i wr => ∃ (k n : Nat), k ≤ xs.length ∧ i = .int .i64 k ∧ wr = w.drewN n) (fun i _ => xs.length - (intOf i).toNat)
  case atStart => exact ⟨0, 0, Nat.zero_le _, rfl, rfl⟩
  case round =>
    obtain ⟨k, n, hk, rfl, rfl⟩ := hrel
    by_cases hlt : k < xs.length
    · obtain ⟨a, c, h1, h2, h3, h4, _, _, _⟩ := HI.out.2.2 k xs[k] (List.getElem?_eq_getElem hlt)
      obtain ⟨bl, ol, rfl, hx1, hc1⟩ := HL.out.at (k := k) hlt
      obtain ⟨bw, ow, rfl, hx2, hc2⟩ := HW.out.at (k := k) hlt
      rw [List.getElem?_eq_getElem hx1] at h1
      rw [List.getElem?_eq_getElem hx2] at h2
      injection h1 with h1
      injection h2 with h2
      rw [h1] at hc1
      rw [h2] at hc2
      obtain ⟨aa, ac, rfl⟩ := h3.form
      obtain ⟨ca, cc, rfl⟩ := h4.form
      have H3 := Lib.hid (fun j => h3.kp0 ((Kp.refl [] w).drewN j))
      have H4 := Lib.hid (fun j => h4.kp0 ((Kp.refl [] w).drewN j))
      generalize (bv xs[k]).length = m at *
      clear h1 h2 h3 h4 hx1 hx2
      go_wp2_with fail
      go_quiet ((go_at_call 12; exact (eq_same _ _ _ _ (H3.out _) (H4.out _)).mono (fun _ _ ⟨he, hm⟩ => ⟨he, _, hm.symm⟩)))
      go_wp2_with fail
      go_roundw
      case rel => exact ⟨k + 1, _, by omega, by go_num, rfl⟩
      case measure => simp [intOf]; omega
    · obtain rfl : k = xs.length := by omega
      go_wp2_with fail
      go_ret
      exact ⟨rfl, _, rfl⟩
end Go.Proofs.Ytkceaepbjdfccaa
