/-
What a reader's U8, U16, U32, Fixed, Run, End and Fault come to.
-/
import Derived.Test.YtkceaepbjdfccaaDoorDRead1
namespace Go.Proofs.YtkceaepbjdfccaaDoor
open Go.RowKit
theorem numL_small (l : List UInt8) : wrap64 (numL l) = numL l := by have := numL_lo l; unfold wrap64; omega
theorem fieldL_len (b : List UInt8) (s : Rst) (a : Nat) (n : Int) : (fieldL b s a n).1.length ≤ b.length := by
  unfold fieldL
  split <;> (try split) <;> (try split) <;> simp <;> omega
/-- behind a call of a reader -/
def Got (B p : Nat) (rv : Value) (b : List UInt8) (s' : Rst) (v : Value) (w : World) (r : Ending) (w' : World) : Prop :=
  r = .returned v ∧ Rr w' B p rv b s' ∧ Kp [p] w w'
set_option maxRecDepth 100000 in
set_option maxHeartbeats 400000 in
theorem rU8_any (B p : Nat) (rv : Value) (b : List UInt8) (s : Rst) (w : World) (hR : Rr w B p rv b s) :
    Calls Tryd.prog 68 #[.pointer (some ⟨p, 0, none⟩)] w (Got B p rv b (fieldL b s 0 1).2 (.int .i64 (numL (fieldL b s 0 1).1)) w) := by
  have hb := hR.hb
  have HR := Lib.hid hR
  have hl := fieldL_len b s 0 1
  have hn := numL_lo (fieldL b s 0 1).1
  clear hR
  go_enter Tryd.func68, Tryd.ntmps68
  go_wp2_with fail
  refine (field_any B p rv b s 0 1 w HR.out (by omega) (by omega)).mono ?_
  rintro e w' ⟨v', rfl, ho, hr, k⟩
  have HO := Lib.hid ho
  have HR2 := Lib.hid hr
  clear ho hr
  go_wp2_with fail
  refine (number_any v' _ w' HO.out.rd (by omega)).mono ?_
  rintro e w2 ⟨rfl, rfl⟩
  go_wp2_with fail
  go_ret
  exact ⟨rfl, HR2.out, k⟩
set_option maxRecDepth 100000 in
set_option maxHeartbeats 400000 in
theorem rU32_any (B p : Nat) (rv : Value) (b : List UInt8) (s : Rst) (w : World) (hR : Rr w B p rv b s) :
    Calls Tryd.prog 69 #[.pointer (some ⟨p, 0, none⟩)] w (Got B p rv b (fieldL b s 0 4).2 (.int .u32 (numL (fieldL b s 0 4).1)) w) := by
  have hb := hR.hb
  have HR := Lib.hid hR
  have hl := fieldL_len b s 0 4
  have hn := numL_lo (fieldL b s 0 4).1
  clear hR
  go_enter Tryd.func69, Tryd.ntmps69
  go_wp2_with fail
  refine (field_any B p rv b s 0 4 w HR.out (by omega) (by omega)).mono ?_
  rintro e w' ⟨v', rfl, ho, hr, k⟩
  have HO := Lib.hid ho
  have HR2 := Lib.hid hr
  clear ho hr
  go_wp2_with fail
  refine (number_any v' _ w' HO.out.rd (by omega)).mono ?_
  rintro e w2 ⟨rfl, rfl⟩
  go_wp2_with fail
  go_ret
  exact ⟨rfl, HR2.out, k⟩
set_option maxRecDepth 100000 in
set_option maxHeartbeats 400000 in
theorem rFixed_any (B p : Nat) (rv : Value) (b : List UInt8) (s : Rst) (n : Int) (w : World) (hR : Rr w B p rv b s) (hn : n ≤ 211106232532992) :
    Calls Tryd.prog 70 #[.pointer (some ⟨p, 0, none⟩), .int .i64 n] w fun e w' => ∃ v', e = .returned v' ∧ Own w' w.heap.size 5 v' (bv (fieldL b s 0 n).1) ∧ Rr w' B p rv b (fieldL b s 0 n).2 ∧ Kp [p] w w' := by
  have HR := Lib.hid hR
  clear hR
  go_enter Tryd.func70, Tryd.ntmps70
  go_wp2_with fail
  refine (field_any B p rv b s 0 n w HR.out (by omega) hn).mono ?_
  rintro e w' ⟨v', rfl, ho, hr, k⟩
  have HO := Lib.hid ho
  have HR2 := Lib.hid hr
  clear ho hr
  go_wp2_with fail
  go_ret
  exact ⟨v', rfl, HO.out, HR2.out, k⟩
/-- End: a field of no bytes -/
def endL (b : List UInt8) (s : Rst) : Rst := if s.f = 0 ∧ 0 < (b.length : Int) - s.at_ then ⟨s.at_, s.at_, 11⟩ else s
set_option maxRecDepth 100000 in
set_option maxHeartbeats 400000 in
theorem rFault_ok (B p : Nat) (rv : Value) (b : List UInt8) (s : Rst) (w : World) (hR : Rr w B p rv b s) (hf : s.f = 0) :
    Calls Tryd.prog 71 #[.pointer (some ⟨p, 0, none⟩)] w fun e w' => e = .returned (.tuple #[.int .i64 0, .int .i64 0]) ∧ w = w' := by
  obtain ⟨h0, h1, h2, h3⟩ := hR.cells
  rw [hf] at h3
  clear hR h0 h1 h2 hf
  go_enter Tryd.func71, Tryd.ntmps71
  go_wp2_with fail
  go_ret2
  exact ⟨rfl, rfl⟩
set_option maxRecDepth 100000 in
set_option maxHeartbeats 400000 in
theorem rFault_bad (B p : Nat) (rv : Value) (b : List UInt8) (s : Rst) (w : World) (hR : Rr w B p rv b s) (hf : s.f ≠ 0) :
    Calls Tryd.prog 71 #[.pointer (some ⟨p, 0, none⟩)] w fun e w' => e = .returned (.tuple #[.int .i64 s.wh, .int .i64 s.f]) ∧ ∃ n, w' = w.drewN n := by
  obtain ⟨h0, h1, h2, h3⟩ := hR.cells
  have hfb : (s.f == 0) = false := by simpa using hf
  generalize s.f = f at *
  generalize s.wh = wh at *
  clear hR h0 h1 hf
  go_enter Tryd.func71, Tryd.ntmps71
  go_wp2_with fail
  go_quiet (fail)
  go_wp2_with fail
  go_ret2
  exact ⟨rfl, _, rfl⟩
/-- Run: its number, then as many bytes -/
def runL (b : List UInt8) (s : Rst) (most : Int) : List UInt8 × Rst :=
  if s.f ≠ 0 then ([], s)
  else if (b.length : Int) - s.at_ < 2 then ([], ⟨s.at_, s.at_, 10⟩)
  else if most < numL ((b.drop s.at_).take 2) then ([], ⟨s.at_, s.at_, 12⟩)
  else fieldL b s 2 (numL ((b.drop s.at_).take 2))
end Go.Proofs.YtkceaepbjdfccaaDoor
