/-
state.counts, a path a lemma.
-/
import Derived.Test.YtkceaepbjdfccaaSt3
namespace Go.Proofs.Ytkceaepbjdfccaa
open Go.RowKit
set_option maxRecDepth 100000 in
set_option maxHeartbeats 1000000 in
theorem cnt_a (S : St) (hS : S.ok) (w : World) (gg : decide (1 < gap S.own S.turns) = true) :
    Calls Try.prog 50 #[.agg S.cl.toArray] w fun e w' => e = .returned (.bool false) ∧ Kp [] w w' := by
  have HO := Lib.hid hS
  obtain ⟨w0, hw0⟩ : ∃ w0, w0 = w.alloc (.cells S.cl.toArray 45) := ⟨_, rfl⟩
  have H0 : Hid (Kp [] w w0 ∧ StAt w0 w.heap.size S) := Lib.hid (by rw [hw0]; exact ⟨(Kp.refl [] w).alloc _, heap_alloc_new w _, hS⟩)
  have c0 := H0.out.2.own
  have c1 := H0.out.2.turns
  have c2 := H0.out.2.sent
  have c3 := H0.out.2.got
  have c4 := H0.out.2.prev
  have c5 := H0.out.2.ser
  go_enter Try.func50, Try.ntmps50
  go_upto_block 0 with fail
  rw [← hw0]
  clear hw0
  generalize hK : w.heap.size = K at *
  clear hK
  have HAP := Lib.hid (fun W => apart_any S.own S.turns HO.out.own HO.out.turns W)
  have er := fun W => ne_key S.rk HO.out.lr W
  have es := fun W => eq_key S.sk HO.out.ls W
  have eh := fun W => eq_hello S.hid S.ho S.hp HO.out.li HO.out.lo W
  have i2 : IntKind.i64.wrap S.sent = S.sent := IntWalk.i64_in _ (by have a := HO.out.sent; unfold W32 at a; omega)
  have i4 : IntKind.i64.wrap S.prev = S.prev := IntWalk.i64_in _ (by have a := HO.out.prev; unfold W32 at a; omega)
  have i5 : IntKind.i64.wrap S.ser = S.ser := IntWalk.i64_in _ (by have a := HO.out.ser; unfold W32 at a; omega)
  have m1 : Try.prog.eqGuardType Try.prog.depth 37 = false := by kernel_rfl
  have m2 : Try.prog.eqGuardType Try.prog.depth 42 = false := by kernel_rfl
  generalize gap S.own S.turns = G at *
  go_quiet (fail)
  have HAT := Lib.hid (H0.out.2.drewN nq)
  have HAT0 := Lib.hid (H0.out.1.drewN nq)
  clear c0 c1 c2 c3 c4 c5
  generalize w0.drewN nq = w1 at *
  have c0 := HAT.out.own
  have c1 := HAT.out.turns
  have c2 := HAT.out.sent
  have c3 := HAT.out.got
  have c4 := HAT.out.prev
  have c5 := HAT.out.ser
  go_wp2_with (first
    | (go_at_call 75; go_must (refine (HAP.out _).mono ?_; rintro e w' ⟨rfl, rfl⟩)))
  go_ret
  exact ⟨rfl, HAT0.out⟩
set_option maxRecDepth 100000 in
set_option maxHeartbeats 1000000 in
theorem cnt_b (S : St) (hS : S.ok) (w : World) (gg : decide (1 < gap S.own S.turns) = false) (bt : (S.turns == 0) = true) (br : decide (S.rk = z32) = false) :
    Calls Try.prog 50 #[.agg S.cl.toArray] w fun e w' => e = .returned (.bool false) ∧ Kp [] w w' := by
  have HO := Lib.hid hS
  obtain ⟨w0, hw0⟩ : ∃ w0, w0 = w.alloc (.cells S.cl.toArray 45) := ⟨_, rfl⟩
  have H0 : Hid (Kp [] w w0 ∧ StAt w0 w.heap.size S) := Lib.hid (by rw [hw0]; exact ⟨(Kp.refl [] w).alloc _, heap_alloc_new w _, hS⟩)
  have c0 := H0.out.2.own
  have c1 := H0.out.2.turns
  have c2 := H0.out.2.sent
  have c3 := H0.out.2.got
  have c4 := H0.out.2.prev
  have c5 := H0.out.2.ser
  go_enter Try.func50, Try.ntmps50
  go_upto_block 0 with fail
  rw [← hw0]
  clear hw0
  generalize hK : w.heap.size = K at *
  clear hK
  have HAP := Lib.hid (fun W => apart_any S.own S.turns HO.out.own HO.out.turns W)
  have er := fun W => ne_key S.rk HO.out.lr W
  have es := fun W => eq_key S.sk HO.out.ls W
  have eh := fun W => eq_hello S.hid S.ho S.hp HO.out.li HO.out.lo W
  have i2 : IntKind.i64.wrap S.sent = S.sent := IntWalk.i64_in _ (by have a := HO.out.sent; unfold W32 at a; omega)
  have i4 : IntKind.i64.wrap S.prev = S.prev := IntWalk.i64_in _ (by have a := HO.out.prev; unfold W32 at a; omega)
  have i5 : IntKind.i64.wrap S.ser = S.ser := IntWalk.i64_in _ (by have a := HO.out.ser; unfold W32 at a; omega)
  have m1 : Try.prog.eqGuardType Try.prog.depth 37 = false := by kernel_rfl
  have m2 : Try.prog.eqGuardType Try.prog.depth 42 = false := by kernel_rfl
  generalize gap S.own S.turns = G at *
  go_quiet (fail)
  have HAT := Lib.hid (H0.out.2.drewN nq)
  have HAT0 := Lib.hid (H0.out.1.drewN nq)
  clear c0 c1 c2 c3 c4 c5
  generalize w0.drewN nq = w1 at *
  have c0 := HAT.out.own
  have c1 := HAT.out.turns
  have c2 := HAT.out.sent
  have c3 := HAT.out.got
  have c4 := HAT.out.prev
  have c5 := HAT.out.ser
  go_wp2_with (first
    | ((with_reducible refine wpList_load_g 37 (.tmp 27) ?p2 K 176 ?p3 ?pw (iv S.rk) ?p4 ?p5 ?p6 ?p7 ?p8 ?p9); (case p2 => rfl); (case p3 => rfl); (case pw => rfl); (case p5 => exact HAT.out.rk); (case p6 => exact Try.underlying37); (case p7 => rfl); (case p8 => (rw [iv_length, HO.out.lr]; kernel_rfl)))
    | (go_at_call 75; go_must (refine (HAP.out _).mono ?_; rintro e w' ⟨rfl, rfl⟩)))
  go_ret
  exact ⟨rfl, HAT0.out⟩
set_option maxRecDepth 100000 in
set_option maxHeartbeats 1000000 in
theorem cnt_c (S : St) (hS : S.ok) (w : World) (gg : decide (1 < gap S.own S.turns) = false) (bt : (S.turns == 0) = true) (br : decide (S.rk = z32) = true) (bg : (S.got != 0) = true) :
    Calls Try.prog 50 #[.agg S.cl.toArray] w fun e w' => e = .returned (.bool false) ∧ Kp [] w w' := by
  have HO := Lib.hid hS
  obtain ⟨w0, hw0⟩ : ∃ w0, w0 = w.alloc (.cells S.cl.toArray 45) := ⟨_, rfl⟩
  have H0 : Hid (Kp [] w w0 ∧ StAt w0 w.heap.size S) := Lib.hid (by rw [hw0]; exact ⟨(Kp.refl [] w).alloc _, heap_alloc_new w _, hS⟩)
  have c0 := H0.out.2.own
  have c1 := H0.out.2.turns
  have c2 := H0.out.2.sent
  have c3 := H0.out.2.got
  have c4 := H0.out.2.prev
  have c5 := H0.out.2.ser
  go_enter Try.func50, Try.ntmps50
  go_upto_block 0 with fail
  rw [← hw0]
  clear hw0
  generalize hK : w.heap.size = K at *
  clear hK
  have HAP := Lib.hid (fun W => apart_any S.own S.turns HO.out.own HO.out.turns W)
  have er := fun W => ne_key S.rk HO.out.lr W
  have es := fun W => eq_key S.sk HO.out.ls W
  have eh := fun W => eq_hello S.hid S.ho S.hp HO.out.li HO.out.lo W
  have i2 : IntKind.i64.wrap S.sent = S.sent := IntWalk.i64_in _ (by have a := HO.out.sent; unfold W32 at a; omega)
  have i4 : IntKind.i64.wrap S.prev = S.prev := IntWalk.i64_in _ (by have a := HO.out.prev; unfold W32 at a; omega)
  have i5 : IntKind.i64.wrap S.ser = S.ser := IntWalk.i64_in _ (by have a := HO.out.ser; unfold W32 at a; omega)
  have m1 : Try.prog.eqGuardType Try.prog.depth 37 = false := by kernel_rfl
  have m2 : Try.prog.eqGuardType Try.prog.depth 42 = false := by kernel_rfl
  generalize gap S.own S.turns = G at *
  go_quiet (fail)
  have HAT := Lib.hid (H0.out.2.drewN nq)
  have HAT0 := Lib.hid (H0.out.1.drewN nq)
  clear c0 c1 c2 c3 c4 c5
  generalize w0.drewN nq = w1 at *
  have c0 := HAT.out.own
  have c1 := HAT.out.turns
  have c2 := HAT.out.sent
  have c3 := HAT.out.got
  have c4 := HAT.out.prev
  have c5 := HAT.out.ser
  go_wp2_with (first
    | ((with_reducible refine wpList_load_g 37 (.tmp 27) ?p2 K 176 ?p3 ?pw (iv S.rk) ?p4 ?p5 ?p6 ?p7 ?p8 ?p9); (case p2 => rfl); (case p3 => rfl); (case pw => rfl); (case p5 => exact HAT.out.rk); (case p6 => exact Try.underlying37); (case p7 => rfl); (case p8 => (rw [iv_length, HO.out.lr]; kernel_rfl)))
    | (go_at_call 75; go_must (refine (HAP.out _).mono ?_; rintro e w' ⟨rfl, rfl⟩)))
  go_ret
  exact ⟨rfl, HAT0.out⟩
set_option maxRecDepth 100000 in
set_option maxHeartbeats 1000000 in
theorem cnt_x0ht (S : St) (hS : S.ok) (w : World) (gg : decide (1 < gap S.own S.turns) = false) (bt : (S.turns == 0) = true) (br : decide (S.rk = z32) = true) (bg : (S.got != 0) = false) (b0 : (S.own == 0) = true) (qs : (decide (S.sk = z32)) = true) (q1 : (S.sent == 0) = true) (q2 : (S.prev == 0) = true) (q3 : (S.ser == 0) = true) (qh : (decide (S.hid = z32) && (decide (S.ho = z32) && decide (S.hp = 0))) = true) :
    Calls Try.prog 50 #[.agg S.cl.toArray] w fun e w' => e = .returned (.bool true) ∧ Kp [] w w' := by
  have HO := Lib.hid hS
  obtain ⟨w0, hw0⟩ : ∃ w0, w0 = w.alloc (.cells S.cl.toArray 45) := ⟨_, rfl⟩
  have H0 : Hid (Kp [] w w0 ∧ StAt w0 w.heap.size S) := Lib.hid (by rw [hw0]; exact ⟨(Kp.refl [] w).alloc _, heap_alloc_new w _, hS⟩)
  have c0 := H0.out.2.own
  have c1 := H0.out.2.turns
  have c2 := H0.out.2.sent
  have c3 := H0.out.2.got
  have c4 := H0.out.2.prev
  have c5 := H0.out.2.ser
  go_enter Try.func50, Try.ntmps50
  go_upto_block 0 with fail
  rw [← hw0]
  clear hw0
  generalize hK : w.heap.size = K at *
  clear hK
  have HAP := Lib.hid (fun W => apart_any S.own S.turns HO.out.own HO.out.turns W)
  have er := fun W => ne_key S.rk HO.out.lr W
  have es := fun W => eq_key S.sk HO.out.ls W
  have eh := fun W => eq_hello S.hid S.ho S.hp HO.out.li HO.out.lo W
  have i2 : IntKind.i64.wrap S.sent = S.sent := IntWalk.i64_in _ (by have a := HO.out.sent; unfold W32 at a; omega)
  have i4 : IntKind.i64.wrap S.prev = S.prev := IntWalk.i64_in _ (by have a := HO.out.prev; unfold W32 at a; omega)
  have i5 : IntKind.i64.wrap S.ser = S.ser := IntWalk.i64_in _ (by have a := HO.out.ser; unfold W32 at a; omega)
  have m1 : Try.prog.eqGuardType Try.prog.depth 37 = false := by kernel_rfl
  have m2 : Try.prog.eqGuardType Try.prog.depth 42 = false := by kernel_rfl
  generalize gap S.own S.turns = G at *
  go_quiet (fail)
  have HAT := Lib.hid (H0.out.2.drewN nq)
  have HAT0 := Lib.hid (H0.out.1.drewN nq)
  clear c0 c1 c2 c3 c4 c5
  generalize w0.drewN nq = w1 at *
  have c0 := HAT.out.own
  have c1 := HAT.out.turns
  have c2 := HAT.out.sent
  have c3 := HAT.out.got
  have c4 := HAT.out.prev
  have c5 := HAT.out.ser
  go_wp2_with (first
    | ((with_reducible refine wpList_load_g 37 (.tmp 27) ?p2 K 176 ?p3 ?pw (iv S.rk) ?p4 ?p5 ?p6 ?p7 ?p8 ?p9); (case p2 => rfl); (case p3 => rfl); (case pw => rfl); (case p5 => exact HAT.out.rk); (case p6 => exact Try.underlying37); (case p7 => rfl); (case p8 => (rw [iv_length, HO.out.lr]; kernel_rfl)))
    | ((with_reducible refine wpList_load_mid ?q1 37 (.tmp 41) ?q2 K 144 ?q3 (iv S.sk) ?q4 ?q5 ?q6 ?q7 ?q8 ?q9); (case q1 => rfl); (case q2 => rfl); (case q3 => rfl); (case q5 => exact HAT.out.sk); (case q6 => exact Try.underlying37); (case q7 => rfl); (case q8 => (rw [iv_length, HO.out.ls]; kernel_rfl)))
    | ((with_reducible refine wpList_load_g 42 (.tmp 58) ?r2 K 214 ?r3 ?rw (hel S.hid S.ho S.hp) ?r4 ?r5 ?r6 ?r7 ?r8 ?r9); (case r2 => rfl); (case r3 => rfl); (case rw => rfl); (case r5 => exact HAT.out.hello); (case r6 => exact Try.underlying42); (case r7 => rfl); (case r8 => (rw [hel_len _ _ _ HO.out.li HO.out.lo]; kernel_rfl)))
    | (go_at_call 75; go_must (refine (HAP.out _).mono ?_; rintro e w' ⟨rfl, rfl⟩)))
  go_ret
  exact ⟨rfl, HAT0.out⟩
set_option maxRecDepth 100000 in
set_option maxHeartbeats 1000000 in
theorem cnt_x1t (S : St) (hS : S.ok) (w : World) (gg : decide (1 < gap S.own S.turns) = false) (bt : (S.turns == 0) = true) (br : decide (S.rk = z32) = true) (bg : (S.got != 0) = false) (b0 : (S.own == 0) = false) (b1 : (S.own == 1) = true) (q2 : (S.prev == 0) = true) (q3 : (S.ser == S.sent) = true) :
    Calls Try.prog 50 #[.agg S.cl.toArray] w fun e w' => e = .returned (.bool true) ∧ Kp [] w w' := by
  have HO := Lib.hid hS
  obtain ⟨w0, hw0⟩ : ∃ w0, w0 = w.alloc (.cells S.cl.toArray 45) := ⟨_, rfl⟩
  have H0 : Hid (Kp [] w w0 ∧ StAt w0 w.heap.size S) := Lib.hid (by rw [hw0]; exact ⟨(Kp.refl [] w).alloc _, heap_alloc_new w _, hS⟩)
  have c0 := H0.out.2.own
  have c1 := H0.out.2.turns
  have c2 := H0.out.2.sent
  have c3 := H0.out.2.got
  have c4 := H0.out.2.prev
  have c5 := H0.out.2.ser
  go_enter Try.func50, Try.ntmps50
  go_upto_block 0 with fail
  rw [← hw0]
  clear hw0
  generalize hK : w.heap.size = K at *
  clear hK
  have HAP := Lib.hid (fun W => apart_any S.own S.turns HO.out.own HO.out.turns W)
  have er := fun W => ne_key S.rk HO.out.lr W
  have es := fun W => eq_key S.sk HO.out.ls W
  have eh := fun W => eq_hello S.hid S.ho S.hp HO.out.li HO.out.lo W
  have i2 : IntKind.i64.wrap S.sent = S.sent := IntWalk.i64_in _ (by have a := HO.out.sent; unfold W32 at a; omega)
  have i4 : IntKind.i64.wrap S.prev = S.prev := IntWalk.i64_in _ (by have a := HO.out.prev; unfold W32 at a; omega)
  have i5 : IntKind.i64.wrap S.ser = S.ser := IntWalk.i64_in _ (by have a := HO.out.ser; unfold W32 at a; omega)
  have m1 : Try.prog.eqGuardType Try.prog.depth 37 = false := by kernel_rfl
  have m2 : Try.prog.eqGuardType Try.prog.depth 42 = false := by kernel_rfl
  generalize gap S.own S.turns = G at *
  go_quiet (fail)
  have HAT := Lib.hid (H0.out.2.drewN nq)
  have HAT0 := Lib.hid (H0.out.1.drewN nq)
  clear c0 c1 c2 c3 c4 c5
  generalize w0.drewN nq = w1 at *
  have c0 := HAT.out.own
  have c1 := HAT.out.turns
  have c2 := HAT.out.sent
  have c3 := HAT.out.got
  have c4 := HAT.out.prev
  have c5 := HAT.out.ser
  go_wp2_with (first
    | ((with_reducible refine wpList_load_g 37 (.tmp 27) ?p2 K 176 ?p3 ?pw (iv S.rk) ?p4 ?p5 ?p6 ?p7 ?p8 ?p9); (case p2 => rfl); (case p3 => rfl); (case pw => rfl); (case p5 => exact HAT.out.rk); (case p6 => exact Try.underlying37); (case p7 => rfl); (case p8 => (rw [iv_length, HO.out.lr]; kernel_rfl)))
    | (go_at_call 75; go_must (refine (HAP.out _).mono ?_; rintro e w' ⟨rfl, rfl⟩)))
  go_ret
  exact ⟨rfl, HAT0.out⟩
set_option maxRecDepth 100000 in
set_option maxHeartbeats 1000000 in
theorem cnt_y0qs (S : St) (hS : S.ok) (w : World) (gg : decide (1 < gap S.own S.turns) = false) (bt : (S.turns == 0) = false) (b0 : (S.own == 0) = true) (qs : (decide (S.sk = z32)) = false) :
    Calls Try.prog 50 #[.agg S.cl.toArray] w fun e w' => e = .returned (.bool false) ∧ Kp [] w w' := by
  have HO := Lib.hid hS
  obtain ⟨w0, hw0⟩ : ∃ w0, w0 = w.alloc (.cells S.cl.toArray 45) := ⟨_, rfl⟩
  have H0 : Hid (Kp [] w w0 ∧ StAt w0 w.heap.size S) := Lib.hid (by rw [hw0]; exact ⟨(Kp.refl [] w).alloc _, heap_alloc_new w _, hS⟩)
  have c0 := H0.out.2.own
  have c1 := H0.out.2.turns
  have c2 := H0.out.2.sent
  have c3 := H0.out.2.got
  have c4 := H0.out.2.prev
  have c5 := H0.out.2.ser
  go_enter Try.func50, Try.ntmps50
  go_upto_block 0 with fail
  rw [← hw0]
  clear hw0
  generalize hK : w.heap.size = K at *
  clear hK
  have HAP := Lib.hid (fun W => apart_any S.own S.turns HO.out.own HO.out.turns W)
  have er := fun W => ne_key S.rk HO.out.lr W
  have es := fun W => eq_key S.sk HO.out.ls W
  have eh := fun W => eq_hello S.hid S.ho S.hp HO.out.li HO.out.lo W
  have i2 : IntKind.i64.wrap S.sent = S.sent := IntWalk.i64_in _ (by have a := HO.out.sent; unfold W32 at a; omega)
  have i4 : IntKind.i64.wrap S.prev = S.prev := IntWalk.i64_in _ (by have a := HO.out.prev; unfold W32 at a; omega)
  have i5 : IntKind.i64.wrap S.ser = S.ser := IntWalk.i64_in _ (by have a := HO.out.ser; unfold W32 at a; omega)
  have m1 : Try.prog.eqGuardType Try.prog.depth 37 = false := by kernel_rfl
  have m2 : Try.prog.eqGuardType Try.prog.depth 42 = false := by kernel_rfl
  generalize gap S.own S.turns = G at *
  go_quiet (fail)
  have HAT := Lib.hid (H0.out.2.drewN nq)
  have HAT0 := Lib.hid (H0.out.1.drewN nq)
  clear c0 c1 c2 c3 c4 c5
  generalize w0.drewN nq = w1 at *
  have c0 := HAT.out.own
  have c1 := HAT.out.turns
  have c2 := HAT.out.sent
  have c3 := HAT.out.got
  have c4 := HAT.out.prev
  have c5 := HAT.out.ser
  go_wp2_with (first
    | ((with_reducible refine wpList_load_mid ?q1 37 (.tmp 41) ?q2 K 144 ?q3 (iv S.sk) ?q4 ?q5 ?q6 ?q7 ?q8 ?q9); (case q1 => rfl); (case q2 => rfl); (case q3 => rfl); (case q5 => exact HAT.out.sk); (case q6 => exact Try.underlying37); (case q7 => rfl); (case q8 => (rw [iv_length, HO.out.ls]; kernel_rfl)))
    | (go_at_call 75; go_must (refine (HAP.out _).mono ?_; rintro e w' ⟨rfl, rfl⟩)))
  go_ret
  exact ⟨rfl, HAT0.out⟩
set_option maxRecDepth 100000 in
set_option maxHeartbeats 1000000 in
theorem cnt_y0q1 (S : St) (hS : S.ok) (w : World) (gg : decide (1 < gap S.own S.turns) = false) (bt : (S.turns == 0) = false) (b0 : (S.own == 0) = true) (qs : (decide (S.sk = z32)) = true) (q1 : (S.sent == 0) = false) :
    Calls Try.prog 50 #[.agg S.cl.toArray] w fun e w' => e = .returned (.bool false) ∧ Kp [] w w' := by
  have HO := Lib.hid hS
  obtain ⟨w0, hw0⟩ : ∃ w0, w0 = w.alloc (.cells S.cl.toArray 45) := ⟨_, rfl⟩
  have H0 : Hid (Kp [] w w0 ∧ StAt w0 w.heap.size S) := Lib.hid (by rw [hw0]; exact ⟨(Kp.refl [] w).alloc _, heap_alloc_new w _, hS⟩)
  have c0 := H0.out.2.own
  have c1 := H0.out.2.turns
  have c2 := H0.out.2.sent
  have c3 := H0.out.2.got
  have c4 := H0.out.2.prev
  have c5 := H0.out.2.ser
  go_enter Try.func50, Try.ntmps50
  go_upto_block 0 with fail
  rw [← hw0]
  clear hw0
  generalize hK : w.heap.size = K at *
  clear hK
  have HAP := Lib.hid (fun W => apart_any S.own S.turns HO.out.own HO.out.turns W)
  have er := fun W => ne_key S.rk HO.out.lr W
  have es := fun W => eq_key S.sk HO.out.ls W
  have eh := fun W => eq_hello S.hid S.ho S.hp HO.out.li HO.out.lo W
  have i2 : IntKind.i64.wrap S.sent = S.sent := IntWalk.i64_in _ (by have a := HO.out.sent; unfold W32 at a; omega)
  have i4 : IntKind.i64.wrap S.prev = S.prev := IntWalk.i64_in _ (by have a := HO.out.prev; unfold W32 at a; omega)
  have i5 : IntKind.i64.wrap S.ser = S.ser := IntWalk.i64_in _ (by have a := HO.out.ser; unfold W32 at a; omega)
  have m1 : Try.prog.eqGuardType Try.prog.depth 37 = false := by kernel_rfl
  have m2 : Try.prog.eqGuardType Try.prog.depth 42 = false := by kernel_rfl
  generalize gap S.own S.turns = G at *
  go_quiet (fail)
  have HAT := Lib.hid (H0.out.2.drewN nq)
  have HAT0 := Lib.hid (H0.out.1.drewN nq)
  clear c0 c1 c2 c3 c4 c5
  generalize w0.drewN nq = w1 at *
  have c0 := HAT.out.own
  have c1 := HAT.out.turns
  have c2 := HAT.out.sent
  have c3 := HAT.out.got
  have c4 := HAT.out.prev
  have c5 := HAT.out.ser
  go_wp2_with (first
    | ((with_reducible refine wpList_load_mid ?q1 37 (.tmp 41) ?q2 K 144 ?q3 (iv S.sk) ?q4 ?q5 ?q6 ?q7 ?q8 ?q9); (case q1 => rfl); (case q2 => rfl); (case q3 => rfl); (case q5 => exact HAT.out.sk); (case q6 => exact Try.underlying37); (case q7 => rfl); (case q8 => (rw [iv_length, HO.out.ls]; kernel_rfl)))
    | (go_at_call 75; go_must (refine (HAP.out _).mono ?_; rintro e w' ⟨rfl, rfl⟩)))
  go_ret
  exact ⟨rfl, HAT0.out⟩
set_option maxRecDepth 100000 in
set_option maxHeartbeats 1000000 in
theorem cnt_y0ht (S : St) (hS : S.ok) (w : World) (gg : decide (1 < gap S.own S.turns) = false) (bt : (S.turns == 0) = false) (b0 : (S.own == 0) = true) (qs : (decide (S.sk = z32)) = true) (q1 : (S.sent == 0) = true) (q2 : (S.prev == 0) = true) (q3 : (S.ser == 0) = true) (qh : (decide (S.hid = z32) && (decide (S.ho = z32) && decide (S.hp = 0))) = true) :
    Calls Try.prog 50 #[.agg S.cl.toArray] w fun e w' => e = .returned (.bool true) ∧ Kp [] w w' := by
  have HO := Lib.hid hS
  obtain ⟨w0, hw0⟩ : ∃ w0, w0 = w.alloc (.cells S.cl.toArray 45) := ⟨_, rfl⟩
  have H0 : Hid (Kp [] w w0 ∧ StAt w0 w.heap.size S) := Lib.hid (by rw [hw0]; exact ⟨(Kp.refl [] w).alloc _, heap_alloc_new w _, hS⟩)
  have c0 := H0.out.2.own
  have c1 := H0.out.2.turns
  have c2 := H0.out.2.sent
  have c3 := H0.out.2.got
  have c4 := H0.out.2.prev
  have c5 := H0.out.2.ser
  go_enter Try.func50, Try.ntmps50
  go_upto_block 0 with fail
  rw [← hw0]
  clear hw0
  generalize hK : w.heap.size = K at *
  clear hK
  have HAP := Lib.hid (fun W => apart_any S.own S.turns HO.out.own HO.out.turns W)
  have er := fun W => ne_key S.rk HO.out.lr W
  have es := fun W => eq_key S.sk HO.out.ls W
  have eh := fun W => eq_hello S.hid S.ho S.hp HO.out.li HO.out.lo W
  have i2 : IntKind.i64.wrap S.sent = S.sent := IntWalk.i64_in _ (by have a := HO.out.sent; unfold W32 at a; omega)
  have i4 : IntKind.i64.wrap S.prev = S.prev := IntWalk.i64_in _ (by have a := HO.out.prev; unfold W32 at a; omega)
  have i5 : IntKind.i64.wrap S.ser = S.ser := IntWalk.i64_in _ (by have a := HO.out.ser; unfold W32 at a; omega)
  have m1 : Try.prog.eqGuardType Try.prog.depth 37 = false := by kernel_rfl
  have m2 : Try.prog.eqGuardType Try.prog.depth 42 = false := by kernel_rfl
  generalize gap S.own S.turns = G at *
  go_quiet (fail)
  have HAT := Lib.hid (H0.out.2.drewN nq)
  have HAT0 := Lib.hid (H0.out.1.drewN nq)
  clear c0 c1 c2 c3 c4 c5
  generalize w0.drewN nq = w1 at *
  have c0 := HAT.out.own
  have c1 := HAT.out.turns
  have c2 := HAT.out.sent
  have c3 := HAT.out.got
  have c4 := HAT.out.prev
  have c5 := HAT.out.ser
  go_wp2_with (first
    | ((with_reducible refine wpList_load_mid ?q1 37 (.tmp 41) ?q2 K 144 ?q3 (iv S.sk) ?q4 ?q5 ?q6 ?q7 ?q8 ?q9); (case q1 => rfl); (case q2 => rfl); (case q3 => rfl); (case q5 => exact HAT.out.sk); (case q6 => exact Try.underlying37); (case q7 => rfl); (case q8 => (rw [iv_length, HO.out.ls]; kernel_rfl)))
    | ((with_reducible refine wpList_load_g 42 (.tmp 58) ?r2 K 214 ?r3 ?rw (hel S.hid S.ho S.hp) ?r4 ?r5 ?r6 ?r7 ?r8 ?r9); (case r2 => rfl); (case r3 => rfl); (case rw => rfl); (case r5 => exact HAT.out.hello); (case r6 => exact Try.underlying42); (case r7 => rfl); (case r8 => (rw [hel_len _ _ _ HO.out.li HO.out.lo]; kernel_rfl)))
    | (go_at_call 75; go_must (refine (HAP.out _).mono ?_; rintro e w' ⟨rfl, rfl⟩)))
  go_ret
  exact ⟨rfl, HAT0.out⟩
set_option maxRecDepth 100000 in
set_option maxHeartbeats 1000000 in
theorem cnt_y1f (S : St) (hS : S.ok) (w : World) (gg : decide (1 < gap S.own S.turns) = false) (bt : (S.turns == 0) = false) (b0 : (S.own == 0) = false) (b1 : (S.own == 1) = true) (q2 : (S.prev == 0) = true) (q3 : (S.ser == S.sent) = false) :
    Calls Try.prog 50 #[.agg S.cl.toArray] w fun e w' => e = .returned (.bool false) ∧ Kp [] w w' := by
  have HO := Lib.hid hS
  obtain ⟨w0, hw0⟩ : ∃ w0, w0 = w.alloc (.cells S.cl.toArray 45) := ⟨_, rfl⟩
  have H0 : Hid (Kp [] w w0 ∧ StAt w0 w.heap.size S) := Lib.hid (by rw [hw0]; exact ⟨(Kp.refl [] w).alloc _, heap_alloc_new w _, hS⟩)
  have c0 := H0.out.2.own
  have c1 := H0.out.2.turns
  have c2 := H0.out.2.sent
  have c3 := H0.out.2.got
  have c4 := H0.out.2.prev
  have c5 := H0.out.2.ser
  go_enter Try.func50, Try.ntmps50
  go_upto_block 0 with fail
  rw [← hw0]
  clear hw0
  generalize hK : w.heap.size = K at *
  clear hK
  have HAP := Lib.hid (fun W => apart_any S.own S.turns HO.out.own HO.out.turns W)
  have er := fun W => ne_key S.rk HO.out.lr W
  have es := fun W => eq_key S.sk HO.out.ls W
  have eh := fun W => eq_hello S.hid S.ho S.hp HO.out.li HO.out.lo W
  have i2 : IntKind.i64.wrap S.sent = S.sent := IntWalk.i64_in _ (by have a := HO.out.sent; unfold W32 at a; omega)
  have i4 : IntKind.i64.wrap S.prev = S.prev := IntWalk.i64_in _ (by have a := HO.out.prev; unfold W32 at a; omega)
  have i5 : IntKind.i64.wrap S.ser = S.ser := IntWalk.i64_in _ (by have a := HO.out.ser; unfold W32 at a; omega)
  have m1 : Try.prog.eqGuardType Try.prog.depth 37 = false := by kernel_rfl
  have m2 : Try.prog.eqGuardType Try.prog.depth 42 = false := by kernel_rfl
  generalize gap S.own S.turns = G at *
  go_quiet (fail)
  have HAT := Lib.hid (H0.out.2.drewN nq)
  have HAT0 := Lib.hid (H0.out.1.drewN nq)
  clear c0 c1 c2 c3 c4 c5
  generalize w0.drewN nq = w1 at *
  have c0 := HAT.out.own
  have c1 := HAT.out.turns
  have c2 := HAT.out.sent
  have c3 := HAT.out.got
  have c4 := HAT.out.prev
  have c5 := HAT.out.ser
  go_wp2_with (first
    | (go_at_call 75; go_must (refine (HAP.out _).mono ?_; rintro e w' ⟨rfl, rfl⟩)))
  go_ret
  exact ⟨rfl, HAT0.out⟩
set_option maxRecDepth 100000 in
set_option maxHeartbeats 1000000 in
theorem cnt_y1t (S : St) (hS : S.ok) (w : World) (gg : decide (1 < gap S.own S.turns) = false) (bt : (S.turns == 0) = false) (b0 : (S.own == 0) = false) (b1 : (S.own == 1) = true) (q2 : (S.prev == 0) = true) (q3 : (S.ser == S.sent) = true) :
    Calls Try.prog 50 #[.agg S.cl.toArray] w fun e w' => e = .returned (.bool true) ∧ Kp [] w w' := by
  have HO := Lib.hid hS
  obtain ⟨w0, hw0⟩ : ∃ w0, w0 = w.alloc (.cells S.cl.toArray 45) := ⟨_, rfl⟩
  have H0 : Hid (Kp [] w w0 ∧ StAt w0 w.heap.size S) := Lib.hid (by rw [hw0]; exact ⟨(Kp.refl [] w).alloc _, heap_alloc_new w _, hS⟩)
  have c0 := H0.out.2.own
  have c1 := H0.out.2.turns
  have c2 := H0.out.2.sent
  have c3 := H0.out.2.got
  have c4 := H0.out.2.prev
  have c5 := H0.out.2.ser
  go_enter Try.func50, Try.ntmps50
  go_upto_block 0 with fail
  rw [← hw0]
  clear hw0
  generalize hK : w.heap.size = K at *
  clear hK
  have HAP := Lib.hid (fun W => apart_any S.own S.turns HO.out.own HO.out.turns W)
  have er := fun W => ne_key S.rk HO.out.lr W
  have es := fun W => eq_key S.sk HO.out.ls W
  have eh := fun W => eq_hello S.hid S.ho S.hp HO.out.li HO.out.lo W
  have i2 : IntKind.i64.wrap S.sent = S.sent := IntWalk.i64_in _ (by have a := HO.out.sent; unfold W32 at a; omega)
  have i4 : IntKind.i64.wrap S.prev = S.prev := IntWalk.i64_in _ (by have a := HO.out.prev; unfold W32 at a; omega)
  have i5 : IntKind.i64.wrap S.ser = S.ser := IntWalk.i64_in _ (by have a := HO.out.ser; unfold W32 at a; omega)
  have m1 : Try.prog.eqGuardType Try.prog.depth 37 = false := by kernel_rfl
  have m2 : Try.prog.eqGuardType Try.prog.depth 42 = false := by kernel_rfl
  generalize gap S.own S.turns = G at *
  go_quiet (fail)
  have HAT := Lib.hid (H0.out.2.drewN nq)
  have HAT0 := Lib.hid (H0.out.1.drewN nq)
  clear c0 c1 c2 c3 c4 c5
  generalize w0.drewN nq = w1 at *
  have c0 := HAT.out.own
  have c1 := HAT.out.turns
  have c2 := HAT.out.sent
  have c3 := HAT.out.got
  have c4 := HAT.out.prev
  have c5 := HAT.out.ser
  go_wp2_with (first
    | (go_at_call 75; go_must (refine (HAP.out _).mono ?_; rintro e w' ⟨rfl, rfl⟩)))
  go_ret
  exact ⟨rfl, HAT0.out⟩
set_option maxRecDepth 100000 in
set_option maxHeartbeats 1000000 in
theorem cnt_y2f (S : St) (hS : S.ok) (w : World) (gg : decide (1 < gap S.own S.turns) = false) (bt : (S.turns == 0) = false) (b0 : (S.own == 0) = false) (b1 : (S.own == 1) = false) (q2 : decide (S.sent ≤ S.ser) = true) (v1 : IntKind.i64.wrap (S.ser - S.sent) = S.ser - S.sent) (q3 : decide (S.prev ≤ S.ser - S.sent) = false) :
    Calls Try.prog 50 #[.agg S.cl.toArray] w fun e w' => e = .returned (.bool false) ∧ Kp [] w w' := by
  have HO := Lib.hid hS
  obtain ⟨w0, hw0⟩ : ∃ w0, w0 = w.alloc (.cells S.cl.toArray 45) := ⟨_, rfl⟩
  have H0 : Hid (Kp [] w w0 ∧ StAt w0 w.heap.size S) := Lib.hid (by rw [hw0]; exact ⟨(Kp.refl [] w).alloc _, heap_alloc_new w _, hS⟩)
  have c0 := H0.out.2.own
  have c1 := H0.out.2.turns
  have c2 := H0.out.2.sent
  have c3 := H0.out.2.got
  have c4 := H0.out.2.prev
  have c5 := H0.out.2.ser
  go_enter Try.func50, Try.ntmps50
  go_upto_block 0 with fail
  rw [← hw0]
  clear hw0
  generalize hK : w.heap.size = K at *
  clear hK
  have HAP := Lib.hid (fun W => apart_any S.own S.turns HO.out.own HO.out.turns W)
  have er := fun W => ne_key S.rk HO.out.lr W
  have es := fun W => eq_key S.sk HO.out.ls W
  have eh := fun W => eq_hello S.hid S.ho S.hp HO.out.li HO.out.lo W
  have i2 : IntKind.i64.wrap S.sent = S.sent := IntWalk.i64_in _ (by have a := HO.out.sent; unfold W32 at a; omega)
  have i4 : IntKind.i64.wrap S.prev = S.prev := IntWalk.i64_in _ (by have a := HO.out.prev; unfold W32 at a; omega)
  have i5 : IntKind.i64.wrap S.ser = S.ser := IntWalk.i64_in _ (by have a := HO.out.ser; unfold W32 at a; omega)
  have m1 : Try.prog.eqGuardType Try.prog.depth 37 = false := by kernel_rfl
  have m2 : Try.prog.eqGuardType Try.prog.depth 42 = false := by kernel_rfl
  generalize gap S.own S.turns = G at *
  go_quiet (fail)
  have HAT := Lib.hid (H0.out.2.drewN nq)
  have HAT0 := Lib.hid (H0.out.1.drewN nq)
  clear c0 c1 c2 c3 c4 c5
  generalize w0.drewN nq = w1 at *
  have c0 := HAT.out.own
  have c1 := HAT.out.turns
  have c2 := HAT.out.sent
  have c3 := HAT.out.got
  have c4 := HAT.out.prev
  have c5 := HAT.out.ser
  go_wp2_with (first
    | (go_at_call 75; go_must (refine (HAP.out _).mono ?_; rintro e w' ⟨rfl, rfl⟩)))
  go_ret
  exact ⟨rfl, HAT0.out⟩
set_option maxRecDepth 100000 in
set_option maxHeartbeats 1000000 in
theorem cnt_y2t (S : St) (hS : S.ok) (w : World) (gg : decide (1 < gap S.own S.turns) = false) (bt : (S.turns == 0) = false) (b0 : (S.own == 0) = false) (b1 : (S.own == 1) = false) (q2 : decide (S.sent ≤ S.ser) = true) (v1 : IntKind.i64.wrap (S.ser - S.sent) = S.ser - S.sent) (q3 : decide (S.prev ≤ S.ser - S.sent) = true) :
    Calls Try.prog 50 #[.agg S.cl.toArray] w fun e w' => e = .returned (.bool true) ∧ Kp [] w w' := by
  have HO := Lib.hid hS
  obtain ⟨w0, hw0⟩ : ∃ w0, w0 = w.alloc (.cells S.cl.toArray 45) := ⟨_, rfl⟩
  have H0 : Hid (Kp [] w w0 ∧ StAt w0 w.heap.size S) := Lib.hid (by rw [hw0]; exact ⟨(Kp.refl [] w).alloc _, heap_alloc_new w _, hS⟩)
  have c0 := H0.out.2.own
  have c1 := H0.out.2.turns
  have c2 := H0.out.2.sent
  have c3 := H0.out.2.got
  have c4 := H0.out.2.prev
  have c5 := H0.out.2.ser
  go_enter Try.func50, Try.ntmps50
  go_upto_block 0 with fail
  rw [← hw0]
  clear hw0
  generalize hK : w.heap.size = K at *
  clear hK
  have HAP := Lib.hid (fun W => apart_any S.own S.turns HO.out.own HO.out.turns W)
  have er := fun W => ne_key S.rk HO.out.lr W
  have es := fun W => eq_key S.sk HO.out.ls W
  have eh := fun W => eq_hello S.hid S.ho S.hp HO.out.li HO.out.lo W
  have i2 : IntKind.i64.wrap S.sent = S.sent := IntWalk.i64_in _ (by have a := HO.out.sent; unfold W32 at a; omega)
  have i4 : IntKind.i64.wrap S.prev = S.prev := IntWalk.i64_in _ (by have a := HO.out.prev; unfold W32 at a; omega)
  have i5 : IntKind.i64.wrap S.ser = S.ser := IntWalk.i64_in _ (by have a := HO.out.ser; unfold W32 at a; omega)
  have m1 : Try.prog.eqGuardType Try.prog.depth 37 = false := by kernel_rfl
  have m2 : Try.prog.eqGuardType Try.prog.depth 42 = false := by kernel_rfl
  generalize gap S.own S.turns = G at *
  go_quiet (fail)
  have HAT := Lib.hid (H0.out.2.drewN nq)
  have HAT0 := Lib.hid (H0.out.1.drewN nq)
  clear c0 c1 c2 c3 c4 c5
  generalize w0.drewN nq = w1 at *
  have c0 := HAT.out.own
  have c1 := HAT.out.turns
  have c2 := HAT.out.sent
  have c3 := HAT.out.got
  have c4 := HAT.out.prev
  have c5 := HAT.out.ser
  go_wp2_with (first
    | (go_at_call 75; go_must (refine (HAP.out _).mono ?_; rintro e w' ⟨rfl, rfl⟩)))
  go_ret
  exact ⟨rfl, HAT0.out⟩
end Go.Proofs.Ytkceaepbjdfccaa
