/-
What a reader's U8, U16, U32, Fixed, Run, End and Fault come to.
-/
import Derived.Test.YtkceaepbjdfccaaRead1
namespace Go.Proofs.Ytkceaepbjdfccaa
open Go.RowKit
theorem numL_small (l : List UInt8) : wrap64 (numL l) = numL l := by have := numL_lo l; unfold wrap64; omega
theorem fieldL_len (b : List UInt8) (s : Rst) (a : Nat) (n : Int) : (fieldL b s a n).1.length ≤ b.length := by
  unfold fieldL
  split <;> (try split) <;> (try split) <;> simp <;> omega
/-- behind a call of a reader -/
def Got (B p : Nat) (rv : Value) (b : List UInt8) (s' : Rst) (v : Value) (w : World) (r : Ending) (w' : World) : Prop :=
  r = .returned v ∧ Rr w' B p rv b s' ∧ Kp [p] w w'
set_option maxRecDepth 100000 in
set_option maxHeartbeats 400000 in
theorem rU8_any (B p : Nat) (rv : Value) (b : List UInt8) (s : Rst) (w : World) (hR : Rr w B p rv b s) :
    Calls Try.prog 38 #[.pointer (some ⟨p, 0, none⟩)] w (Got B p rv b (fieldL b s 0 1).2 (.int .i64 (numL (fieldL b s 0 1).1)) w) := by
  have hb := hR.hb
  have HR := Lib.hid hR
  have hl := fieldL_len b s 0 1
  have hn := numL_lo (fieldL b s 0 1).1
  clear hR
  go_enter Try.func38, Try.ntmps38
  go_wp2_with fail
  refine (field_any B p rv b s 0 1 w HR.out (by omega) (by omega)).mono ?_
  rintro e w' ⟨v', rfl, ho, hr, k⟩
  have HO := Lib.hid ho
  have HR2 := Lib.hid hr
  clear ho hr
  go_wp2_with fail
  refine (number_any v' _ w' HO.out.rd (by omega)).mono ?_
  rintro e w2 ⟨rfl, rfl⟩
  go_wp2_with fail
  go_ret
  exact ⟨rfl, HR2.out, k⟩
set_option maxRecDepth 100000 in
set_option maxHeartbeats 400000 in
theorem rU16_any (B p : Nat) (rv : Value) (b : List UInt8) (s : Rst) (w : World) (hR : Rr w B p rv b s) :
    Calls Try.prog 39 #[.pointer (some ⟨p, 0, none⟩)] w (Got B p rv b (fieldL b s 0 2).2 (.int .i64 (numL (fieldL b s 0 2).1)) w) := by
  have hb := hR.hb
  have HR := Lib.hid hR
  have hl := fieldL_len b s 0 2
  have hn := numL_lo (fieldL b s 0 2).1
  clear hR
  go_enter Try.func39, Try.ntmps39
  go_wp2_with fail
  refine (field_any B p rv b s 0 2 w HR.out (by omega) (by omega)).mono ?_
  rintro e w' ⟨v', rfl, ho, hr, k⟩
  have HO := Lib.hid ho
  have HR2 := Lib.hid hr
  clear ho hr
  go_wp2_with fail
  refine (number_any v' _ w' HO.out.rd (by omega)).mono ?_
  rintro e w2 ⟨rfl, rfl⟩
  go_wp2_with fail
  go_ret
  exact ⟨rfl, HR2.out, k⟩
set_option maxRecDepth 100000 in
set_option maxHeartbeats 400000 in
theorem rU32_any (B p : Nat) (rv : Value) (b : List UInt8) (s : Rst) (w : World) (hR : Rr w B p rv b s) :
    Calls Try.prog 40 #[.pointer (some ⟨p, 0, none⟩)] w (Got B p rv b (fieldL b s 0 4).2 (.int .u32 (numL (fieldL b s 0 4).1)) w) := by
  have hb := hR.hb
  have HR := Lib.hid hR
  have hl := fieldL_len b s 0 4
  have hn := numL_lo (fieldL b s 0 4).1
  clear hR
  go_enter Try.func40, Try.ntmps40
  go_wp2_with fail
  refine (field_any B p rv b s 0 4 w HR.out (by omega) (by omega)).mono ?_
  rintro e w' ⟨v', rfl, ho, hr, k⟩
  have HO := Lib.hid ho
  have HR2 := Lib.hid hr
  clear ho hr
  go_wp2_with fail
  refine (number_any v' _ w' HO.out.rd (by omega)).mono ?_
  rintro e w2 ⟨rfl, rfl⟩
  go_wp2_with fail
  go_ret
  exact ⟨rfl, HR2.out, k⟩
set_option maxRecDepth 100000 in
set_option maxHeartbeats 400000 in
theorem rFixed_any (B p : Nat) (rv : Value) (b : List UInt8) (s : Rst) (n : Int) (w : World) (hR : Rr w B p rv b s) (hn : n ≤ 211106232532992) :
    Calls Try.prog 36 #[.pointer (some ⟨p, 0, none⟩), .int .i64 n] w fun e w' => ∃ v', e = .returned v' ∧ Own w' w.heap.size 5 v' (bv (fieldL b s 0 n).1) ∧ Rr w' B p rv b (fieldL b s 0 n).2 ∧ Kp [p] w w' := by
  have HR := Lib.hid hR
  clear hR
  go_enter Try.func36, Try.ntmps36
  go_wp2_with fail
  refine (field_any B p rv b s 0 n w HR.out (by omega) hn).mono ?_
  rintro e w' ⟨v', rfl, ho, hr, k⟩
  have HO := Lib.hid ho
  have HR2 := Lib.hid hr
  clear ho hr
  go_wp2_with fail
  go_ret
  exact ⟨v', rfl, HO.out, HR2.out, k⟩
/-- End: a field of no bytes -/
def endL (b : List UInt8) (s : Rst) : Rst := if s.f = 0 ∧ 0 < (b.length : Int) - s.at_ then ⟨s.at_, s.at_, 11⟩ else s
set_option maxRecDepth 100000 in
set_option maxHeartbeats 400000 in
theorem rEnd_any (B p : Nat) (rv : Value) (b : List UInt8) (s : Rst) (w : World) (hR : Rr w B p rv b s) :
    Calls Try.prog 27 #[.pointer (some ⟨p, 0, none⟩)] w (Got B p rv b (endL b s) (.tuple #[]) w) := by
  obtain ⟨h0, h1, h2, h3⟩ := hR.cells
  obtain ⟨at_, wh, f⟩ := s
  have hat := hR.hat
  have hbl := hR.hb
  have hfz2 : w.frozen? ⟨p, 2, none⟩ = false := frozen_of_row w p 2 _ _ hR.hp
  have hfz3 : w.frozen? ⟨p, 3, none⟩ = false := frozen_of_row w p 3 _ _ hR.hp
  simp only at h1 h2 h3 hat
  have HR := Lib.hid hR
  clear hR h0
  by_cases hf : f = 0
  · subst hf
    by_cases hl : 0 < (b.length : Int) - at_
    · have HE : Hid (endL b ⟨at_, wh, 0⟩ = ⟨at_, at_, 11⟩) := Lib.hid (by unfold endL; rw [if_pos ⟨rfl, hl⟩])
      have hd : decide (0 < (b.length : Int) - at_) = true := by simpa using hl
      go_enter Try.func27, Try.ntmps27
      go_wp2_with fail
      refine (left_any B p rv b _ w HR.out).mono ?_
      rintro e w' ⟨rfl, nn, rfl⟩
      go_wp2_with fail
      go_end0
      have e1 := heap_setCell_same (w.drewN nn) p 2 _ _ (.int .i64 (at_ : Int)) HR.out.hp
      have e2 := heap_setCell_same _ p 3 _ _ (.int .i64 11) e1
      have kk := (((Kp.refl [p] w).drewN nn).setCell (p := ⟨p, 2, none⟩) (.inl (by simp)) (.int .i64 (at_ : Int))).setCell (p := ⟨p, 3, none⟩) (.inl (by simp)) (.int .i64 11)
      exact ⟨rfl, by rw [HE.out]; exact HR.out.set kk e2 hat, kk⟩
    · have HE : Hid (endL b ⟨at_, wh, 0⟩ = ⟨at_, wh, 0⟩) := Lib.hid (by unfold endL; rw [if_neg (fun h => hl h.2)])
      have hd : decide (0 < (b.length : Int) - at_) = false := by simpa using hl
      go_enter Try.func27, Try.ntmps27
      go_wp2_with fail
      refine (left_any B p rv b _ w HR.out).mono ?_
      rintro e w' ⟨rfl, nn, rfl⟩
      go_wp2_with fail
      go_end0
      exact ⟨rfl, by rw [HE.out]; exact HR.out.kp0 ((Kp.refl [] w).drewN nn), (Kp.refl [p] w).drewN nn⟩
  · have HE : Hid (endL b ⟨at_, wh, f⟩ = ⟨at_, wh, f⟩) := Lib.hid (by unfold endL; rw [if_neg (fun h => hf h.1)])
    have hfb : (f == 0) = false := by simpa using hf
    clear hf
    go_enter Try.func27, Try.ntmps27
    go_wp2_with fail
    go_end0
    exact ⟨rfl, by rw [HE.out]; exact HR.out, Kp.refl _ _⟩
set_option maxRecDepth 100000 in
set_option maxHeartbeats 400000 in
theorem rFault_ok (B p : Nat) (rv : Value) (b : List UInt8) (s : Rst) (w : World) (hR : Rr w B p rv b s) (hf : s.f = 0) :
    Calls Try.prog 28 #[.pointer (some ⟨p, 0, none⟩)] w fun e w' => e = .returned (.tuple #[.int .i64 0, .int .i64 0]) ∧ w = w' := by
  obtain ⟨h0, h1, h2, h3⟩ := hR.cells
  rw [hf] at h3
  clear hR h0 h1 h2 hf
  go_enter Try.func28, Try.ntmps28
  go_wp2_with fail
  go_ret2
  exact ⟨rfl, rfl⟩
set_option maxRecDepth 100000 in
set_option maxHeartbeats 400000 in
theorem rFault_bad (B p : Nat) (rv : Value) (b : List UInt8) (s : Rst) (w : World) (hR : Rr w B p rv b s) (hf : s.f ≠ 0) :
    Calls Try.prog 28 #[.pointer (some ⟨p, 0, none⟩)] w fun e w' => e = .returned (.tuple #[.int .i64 s.wh, .int .i64 s.f]) ∧ ∃ n, w' = w.drewN n := by
  obtain ⟨h0, h1, h2, h3⟩ := hR.cells
  have hfb : (s.f == 0) = false := by simpa using hf
  generalize s.f = f at *
  generalize s.wh = wh at *
  clear hR h0 h1 hf
  go_enter Try.func28, Try.ntmps28
  go_wp2_with fail
  go_quiet (fail)
  go_wp2_with fail
  go_ret2
  exact ⟨rfl, _, rfl⟩
/-- Run: its number, then as many bytes -/
def runL (b : List UInt8) (s : Rst) (most : Int) : List UInt8 × Rst :=
  if s.f ≠ 0 then ([], s)
  else if (b.length : Int) - s.at_ < 2 then ([], ⟨s.at_, s.at_, 10⟩)
  else if most < numL ((b.drop s.at_).take 2) then ([], ⟨s.at_, s.at_, 12⟩)
  else fieldL b s 2 (numL ((b.drop s.at_).take 2))
end Go.Proofs.Ytkceaepbjdfccaa
