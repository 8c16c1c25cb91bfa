/-
table.reads
-/
import Derived.Test.YtkceaepbjdfccaaWx22
namespace Go.Proofs.Ytkceaepbjdfccaa
open Go.RowKit
set_option maxRecDepth 100000 in
set_option maxHeartbeats 2000000 in
theorem reads_13_0 (w0 w : World) (o : Nat → Nat) (t : Nat) (M : Md) (vs : Nat → Value) (n : Nat) (h : WX w0 w o t (CM M) vs n) (hn : n ≤ 800) (wh nn : Int) (lb : List UInt8) (ba : Option Addr) (bq : Nat) (cv : Value) (S : ByteArray) (hk : bits .and .i64 wh 1 = 0) (m : Qs) (hm : M.r0 = some m) :
    Calls Try.prog 45 #[.pointer (some ⟨t, 0, none⟩), .agg #[.int .i64 13, .int .i64 wh, .int .i64 nn, .slice ba lb.length bq, cv, .string S]] w (Stp w0 t { M with r0 := some ⟨m.b, (fieldL m.b m.s 0 1).2⟩ } n) := by
  have H := Lib.hid h
  clear h
  have hbx : Bx (w.alloc (.cells #[.int .i64 13, .int .i64 wh, .int .i64 nn, .slice ba lb.length bq, cv, .string S] 95)) w.heap.size 13 wh nn (.slice ba lb.length bq) cv S := heap_alloc_new _ _
  have HBX := Lib.hid hbx
  clear hbx
  have HOB := Lib.hid (H.out.new (Nat.le_refl w.heap.size))
  have HX1 : Hid (WX w0 (w.alloc (.cells #[.int .i64 13, .int .i64 wh, .int .i64 nn, .slice ba lb.length bq, cv, .string S] 95)) o t (CM M) vs n) := Lib.hid (H.out.kp0 ((Kp.refl [] w).alloc _))
  have HK1 : Hid (Kp [] w (w.alloc (.cells #[.int .i64 13, .int .i64 wh, .int .i64 nn, .slice ba lb.length bq, cv, .string S] 95))) := Lib.hid ((Kp.refl [] w).alloc _)
  have HN := Lib.hid hn
  clear hn
  go_enter Try.func45, Try.ntmps45
  go_upto_region 1 with fail
  generalize w.alloc (.cells #[.int .i64 13, .int .i64 wh, .int .i64 nn, .slice ba lb.length bq, cv, .string S] 95) = w1 at *
  obtain ⟨q0, q1, q2, q3, q4, q5⟩ := HBX.out.c
  generalize hob : w.heap.size = bx at *
  clear hob
  have HS1 : Hid (SX w0 w1 o t w1 o (CM M) vs n) := Lib.hid (SX.start HX1.out)
  go_upto_region 11 with fail
  have HC1 : Hid ((CM M) 4 = CR (some m)) := Lib.hid (by show CR M.r0 = CR (some m); rw [hm])
  have HC2 : Hid ((upd (CM M) 4 (CR (some ⟨m.b, (fieldL m.b m.s 0 1).2⟩))) 6 = CQ (some m)) := Lib.hid (by rw [upd_ne _ _ (by decide)]; show CQ M.r0 = CQ (some m); rw [hm])
  clear hm
  have ct0 := HS1.out.c 4 (by omega)
  have ct1 := HS1.out.c 6 (by omega)
  have hzb := numL_lo (fieldL m.b m.s 0 1).1
  generalize hz : numL (fieldL m.b m.s 0 1).1 = z at hzb
  have HZ := Lib.hid hz
  clear hz
  obtain ⟨hz0, hz1⟩ := hzb
  have hzw : IntKind.i64.wrap z = z := IntWalk.i64_in _ (by omega)
  go_region_held3 (fun W => W.cell? ⟨t, 4, none⟩ = some (vs 4) ∧ W.cell? ⟨t, 6, none⟩ = some (vs 6)) (go_keep) (first
    | (go_at_call 38; ((refine (rxU8 (HS1.out.kp0 (by (repeat (first | exact Kp.refl _ _ | assumption | refine Kp.drewN ?_ _ | refine Kp.drew ?_ | refine Kp.alloc ?_ _ | refine Kp.trans0 ?_ (by assumption))))).hx 4 (by omega) HC1.out).mono ?_); rintro e w3 ⟨rfl, hx, hf⟩; rw [HZ.out]; have HS3 := Lib.hid ((HS1.out.kp0 (by (repeat (first | exact Kp.refl _ _ | assumption | refine Kp.drewN ?_ _ | refine Kp.drew ?_ | refine Kp.alloc ?_ _ | refine Kp.trans0 ?_ (by assumption))))).same hx hf); clear hx hf; have ct0 := HS3.out.c 4 (by omega); have ct1 := HS3.out.c 6 (by omega)))
    | (go_at_call 68; ((refine (qxNum1 (HS3.out.kp0 (by (repeat (first | exact Kp.refl _ _ | assumption | refine Kp.drewN ?_ _ | refine Kp.drew ?_ | refine Kp.alloc ?_ _ | refine Kp.trans0 ?_ (by assumption))))).hx 6 (by omega) HC2.out).mono ?_); rintro e w4 ⟨rfl, hx, hf⟩; rw [HZ.out]; have hs4 := ((HS3.out.kp0 (by (repeat (first | exact Kp.refl _ _ | assumption | refine Kp.drewN ?_ _ | refine Kp.drew ?_ | refine Kp.alloc ?_ _ | refine Kp.trans0 ?_ (by assumption))))).same hx hf); have ct0 := hs4.c 4 (by omega); have ct1 := hs4.c 6 (by omega); rw [CM_r0] at hs4; have HS4 := Lib.hid hs4; clear hx hf hs4)))
  go_wp2_with fail
  go_ret
  exact ⟨by simp, o, vs, n, HS4.out.hx, by omega⟩
set_option maxRecDepth 100000 in
set_option maxHeartbeats 2000000 in
theorem reads_14_0 (w0 w : World) (o : Nat → Nat) (t : Nat) (M : Md) (vs : Nat → Value) (n : Nat) (h : WX w0 w o t (CM M) vs n) (hn : n ≤ 800) (wh nn : Int) (lb : List UInt8) (ba : Option Addr) (bq : Nat) (cv : Value) (S : ByteArray) (hk : bits .and .i64 wh 1 = 0) (m : Qs) (hm : M.r0 = some m) :
    Calls Try.prog 45 #[.pointer (some ⟨t, 0, none⟩), .agg #[.int .i64 14, .int .i64 wh, .int .i64 nn, .slice ba lb.length bq, cv, .string S]] w (Stp w0 t { M with r0 := some ⟨m.b, (fieldL m.b m.s 0 2).2⟩ } n) := by
  have H := Lib.hid h
  clear h
  have hbx : Bx (w.alloc (.cells #[.int .i64 14, .int .i64 wh, .int .i64 nn, .slice ba lb.length bq, cv, .string S] 95)) w.heap.size 14 wh nn (.slice ba lb.length bq) cv S := heap_alloc_new _ _
  have HBX := Lib.hid hbx
  clear hbx
  have HOB := Lib.hid (H.out.new (Nat.le_refl w.heap.size))
  have HX1 : Hid (WX w0 (w.alloc (.cells #[.int .i64 14, .int .i64 wh, .int .i64 nn, .slice ba lb.length bq, cv, .string S] 95)) o t (CM M) vs n) := Lib.hid (H.out.kp0 ((Kp.refl [] w).alloc _))
  have HK1 : Hid (Kp [] w (w.alloc (.cells #[.int .i64 14, .int .i64 wh, .int .i64 nn, .slice ba lb.length bq, cv, .string S] 95))) := Lib.hid ((Kp.refl [] w).alloc _)
  have HN := Lib.hid hn
  clear hn
  go_enter Try.func45, Try.ntmps45
  go_upto_region 1 with fail
  generalize w.alloc (.cells #[.int .i64 14, .int .i64 wh, .int .i64 nn, .slice ba lb.length bq, cv, .string S] 95) = w1 at *
  obtain ⟨q0, q1, q2, q3, q4, q5⟩ := HBX.out.c
  generalize hob : w.heap.size = bx at *
  clear hob
  have HS1 : Hid (SX w0 w1 o t w1 o (CM M) vs n) := Lib.hid (SX.start HX1.out)
  go_upto_region 13 with fail
  have HC1 : Hid ((CM M) 4 = CR (some m)) := Lib.hid (by show CR M.r0 = CR (some m); rw [hm])
  have HC2 : Hid ((upd (CM M) 4 (CR (some ⟨m.b, (fieldL m.b m.s 0 2).2⟩))) 6 = CQ (some m)) := Lib.hid (by rw [upd_ne _ _ (by decide)]; show CQ M.r0 = CQ (some m); rw [hm])
  clear hm
  have ct0 := HS1.out.c 4 (by omega)
  have ct1 := HS1.out.c 6 (by omega)
  have hzb := numL_lo (fieldL m.b m.s 0 2).1
  generalize hz : numL (fieldL m.b m.s 0 2).1 = z at hzb
  have HZ := Lib.hid hz
  clear hz
  obtain ⟨hz0, hz1⟩ := hzb
  have hzw : IntKind.i64.wrap z = z := IntWalk.i64_in _ (by omega)
  go_region_held3 (fun W => W.cell? ⟨t, 4, none⟩ = some (vs 4) ∧ W.cell? ⟨t, 6, none⟩ = some (vs 6)) (go_keep) (first
    | (go_at_call 39; ((refine (rxU16 (HS1.out.kp0 (by (repeat (first | exact Kp.refl _ _ | assumption | refine Kp.drewN ?_ _ | refine Kp.drew ?_ | refine Kp.alloc ?_ _ | refine Kp.trans0 ?_ (by assumption))))).hx 4 (by omega) HC1.out).mono ?_); rintro e w3 ⟨rfl, hx, hf⟩; rw [HZ.out]; have HS3 := Lib.hid ((HS1.out.kp0 (by (repeat (first | exact Kp.refl _ _ | assumption | refine Kp.drewN ?_ _ | refine Kp.drew ?_ | refine Kp.alloc ?_ _ | refine Kp.trans0 ?_ (by assumption))))).same hx hf); clear hx hf; have ct0 := HS3.out.c 4 (by omega); have ct1 := HS3.out.c 6 (by omega)))
    | (go_at_call 68; ((refine (qxNum2 (HS3.out.kp0 (by (repeat (first | exact Kp.refl _ _ | assumption | refine Kp.drewN ?_ _ | refine Kp.drew ?_ | refine Kp.alloc ?_ _ | refine Kp.trans0 ?_ (by assumption))))).hx 6 (by omega) HC2.out).mono ?_); rintro e w4 ⟨rfl, hx, hf⟩; rw [HZ.out]; have hs4 := ((HS3.out.kp0 (by (repeat (first | exact Kp.refl _ _ | assumption | refine Kp.drewN ?_ _ | refine Kp.drew ?_ | refine Kp.alloc ?_ _ | refine Kp.trans0 ?_ (by assumption))))).same hx hf); have ct0 := hs4.c 4 (by omega); have ct1 := hs4.c 6 (by omega); rw [CM_r0] at hs4; have HS4 := Lib.hid hs4; clear hx hf hs4)))
  go_wp2_with fail
  go_ret
  exact ⟨by simp, o, vs, n, HS4.out.hx, by omega⟩
set_option maxRecDepth 100000 in
set_option maxHeartbeats 2000000 in
theorem reads_15_0 (w0 w : World) (o : Nat → Nat) (t : Nat) (M : Md) (vs : Nat → Value) (n : Nat) (h : WX w0 w o t (CM M) vs n) (hn : n ≤ 800) (wh nn : Int) (lb : List UInt8) (ba : Option Addr) (bq : Nat) (cv : Value) (S : ByteArray) (hk : bits .and .i64 wh 1 = 0) (m : Qs) (hm : M.r0 = some m) :
    Calls Try.prog 45 #[.pointer (some ⟨t, 0, none⟩), .agg #[.int .i64 15, .int .i64 wh, .int .i64 nn, .slice ba lb.length bq, cv, .string S]] w (Stp w0 t { M with r0 := some ⟨m.b, (fieldL m.b m.s 0 4).2⟩ } n) := by
  have H := Lib.hid h
  clear h
  have hbx : Bx (w.alloc (.cells #[.int .i64 15, .int .i64 wh, .int .i64 nn, .slice ba lb.length bq, cv, .string S] 95)) w.heap.size 15 wh nn (.slice ba lb.length bq) cv S := heap_alloc_new _ _
  have HBX := Lib.hid hbx
  clear hbx
  have HOB := Lib.hid (H.out.new (Nat.le_refl w.heap.size))
  have HX1 : Hid (WX w0 (w.alloc (.cells #[.int .i64 15, .int .i64 wh, .int .i64 nn, .slice ba lb.length bq, cv, .string S] 95)) o t (CM M) vs n) := Lib.hid (H.out.kp0 ((Kp.refl [] w).alloc _))
  have HK1 : Hid (Kp [] w (w.alloc (.cells #[.int .i64 15, .int .i64 wh, .int .i64 nn, .slice ba lb.length bq, cv, .string S] 95))) := Lib.hid ((Kp.refl [] w).alloc _)
  have HN := Lib.hid hn
  clear hn
  go_enter Try.func45, Try.ntmps45
  go_upto_region 1 with fail
  generalize w.alloc (.cells #[.int .i64 15, .int .i64 wh, .int .i64 nn, .slice ba lb.length bq, cv, .string S] 95) = w1 at *
  obtain ⟨q0, q1, q2, q3, q4, q5⟩ := HBX.out.c
  generalize hob : w.heap.size = bx at *
  clear hob
  have HS1 : Hid (SX w0 w1 o t w1 o (CM M) vs n) := Lib.hid (SX.start HX1.out)
  go_upto_region 15 with fail
  have HC1 : Hid ((CM M) 4 = CR (some m)) := Lib.hid (by show CR M.r0 = CR (some m); rw [hm])
  have HC2 : Hid ((upd (CM M) 4 (CR (some ⟨m.b, (fieldL m.b m.s 0 4).2⟩))) 6 = CQ (some m)) := Lib.hid (by rw [upd_ne _ _ (by decide)]; show CQ M.r0 = CQ (some m); rw [hm])
  clear hm
  have ct0 := HS1.out.c 4 (by omega)
  have ct1 := HS1.out.c 6 (by omega)
  have hzb := numL_lo (fieldL m.b m.s 0 4).1
  generalize hz : numL (fieldL m.b m.s 0 4).1 = z at hzb
  have HZ := Lib.hid hz
  clear hz
  obtain ⟨hz0, hz1⟩ := hzb
  have hzw : IntKind.i64.wrap z = z := IntWalk.i64_in _ (by omega)
  go_region_held3 (fun W => W.cell? ⟨t, 4, none⟩ = some (vs 4) ∧ W.cell? ⟨t, 6, none⟩ = some (vs 6)) (go_keep) (first
    | (go_at_call 40; ((refine (rxU32 (HS1.out.kp0 (by (repeat (first | exact Kp.refl _ _ | assumption | refine Kp.drewN ?_ _ | refine Kp.drew ?_ | refine Kp.alloc ?_ _ | refine Kp.trans0 ?_ (by assumption))))).hx 4 (by omega) HC1.out).mono ?_); rintro e w3 ⟨rfl, hx, hf⟩; rw [HZ.out]; have HS3 := Lib.hid ((HS1.out.kp0 (by (repeat (first | exact Kp.refl _ _ | assumption | refine Kp.drewN ?_ _ | refine Kp.drew ?_ | refine Kp.alloc ?_ _ | refine Kp.trans0 ?_ (by assumption))))).same hx hf); clear hx hf; have ct0 := HS3.out.c 4 (by omega); have ct1 := HS3.out.c 6 (by omega)))
    | (go_at_call 68; ((refine (qxNum4 (HS3.out.kp0 (by (repeat (first | exact Kp.refl _ _ | assumption | refine Kp.drewN ?_ _ | refine Kp.drew ?_ | refine Kp.alloc ?_ _ | refine Kp.trans0 ?_ (by assumption))))).hx 6 (by omega) HC2.out).mono ?_); rintro e w4 ⟨rfl, hx, hf⟩; rw [HZ.out]; have hs4 := ((HS3.out.kp0 (by (repeat (first | exact Kp.refl _ _ | assumption | refine Kp.drewN ?_ _ | refine Kp.drew ?_ | refine Kp.alloc ?_ _ | refine Kp.trans0 ?_ (by assumption))))).same hx hf); have ct0 := hs4.c 4 (by omega); have ct1 := hs4.c 6 (by omega); rw [CM_r0] at hs4; have HS4 := Lib.hid hs4; clear hx hf hs4)))
  go_wp2_with fail
  go_ret
  exact ⟨by simp, o, vs, n, HS4.out.hx, by omega⟩
set_option maxRecDepth 100000 in
set_option maxHeartbeats 2000000 in
theorem reads_18_0 (w0 w : World) (o : Nat → Nat) (t : Nat) (M : Md) (vs : Nat → Value) (n : Nat) (h : WX w0 w o t (CM M) vs n) (hn : n ≤ 800) (wh nn : Int) (lb : List UInt8) (ba : Option Addr) (bq : Nat) (cv : Value) (S : ByteArray) (hk : bits .and .i64 wh 1 = 0) (m : Qs) (hm : M.r0 = some m) :
    Calls Try.prog 45 #[.pointer (some ⟨t, 0, none⟩), .agg #[.int .i64 18, .int .i64 wh, .int .i64 nn, .slice ba lb.length bq, cv, .string S]] w (Stp w0 t { M with r0 := some ⟨m.b, endL m.b m.s⟩ } n) := by
  have H := Lib.hid h
  clear h
  have hbx : Bx (w.alloc (.cells #[.int .i64 18, .int .i64 wh, .int .i64 nn, .slice ba lb.length bq, cv, .string S] 95)) w.heap.size 18 wh nn (.slice ba lb.length bq) cv S := heap_alloc_new _ _
  have HBX := Lib.hid hbx
  clear hbx
  have HOB := Lib.hid (H.out.new (Nat.le_refl w.heap.size))
  have HX1 : Hid (WX w0 (w.alloc (.cells #[.int .i64 18, .int .i64 wh, .int .i64 nn, .slice ba lb.length bq, cv, .string S] 95)) o t (CM M) vs n) := Lib.hid (H.out.kp0 ((Kp.refl [] w).alloc _))
  have HK1 : Hid (Kp [] w (w.alloc (.cells #[.int .i64 18, .int .i64 wh, .int .i64 nn, .slice ba lb.length bq, cv, .string S] 95))) := Lib.hid ((Kp.refl [] w).alloc _)
  have HN := Lib.hid hn
  clear hn
  go_enter Try.func45, Try.ntmps45
  go_upto_region 1 with fail
  generalize w.alloc (.cells #[.int .i64 18, .int .i64 wh, .int .i64 nn, .slice ba lb.length bq, cv, .string S] 95) = w1 at *
  obtain ⟨q0, q1, q2, q3, q4, q5⟩ := HBX.out.c
  generalize hob : w.heap.size = bx at *
  clear hob
  have HS1 : Hid (SX w0 w1 o t w1 o (CM M) vs n) := Lib.hid (SX.start HX1.out)
  have HC1 : Hid ((CM M) 4 = CR (some m)) := Lib.hid (by show CR M.r0 = CR (some m); rw [hm])
  have HC2 : Hid ((upd (CM M) 4 (CR (some ⟨m.b, endL m.b m.s⟩))) 6 = CQ (some m)) := Lib.hid (by rw [upd_ne _ _ (by decide)]; show CQ M.r0 = CQ (some m); rw [hm])
  clear hm
  have ct0 := HS1.out.c 4 (by omega)
  have ct1 := HS1.out.c 6 (by omega)
  go_wp2_with (first
    | (go_at_call 27; ((refine (rxEnd HS1.out.hx 4 (by omega) HC1.out).mono ?_); rintro e w3 ⟨rfl, hx, hf⟩; have HS3 := Lib.hid (HS1.out.same hx hf); clear hx hf ct0 ct1; have ct1 := HS3.out.c 6 (by omega)))
    | (go_at_call 71; ((refine (qxEnd HS3.out.hx 6 (by omega) HC2.out).mono ?_); rintro e w4 ⟨rfl, hx, hf⟩; have hs4 := (HS3.out.same hx hf); rw [CM_r0] at hs4; have HS4 := Lib.hid hs4; clear hx hf hs4))
    | fail)
  go_ret
  exact ⟨rfl, o, vs, n, HS4.out.hx, by omega⟩
end Go.Proofs.Ytkceaepbjdfccaa
