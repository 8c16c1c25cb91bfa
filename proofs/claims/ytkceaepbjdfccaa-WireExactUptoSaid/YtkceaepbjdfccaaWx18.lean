/-
table.writes
-/
import Derived.Test.YtkceaepbjdfccaaWx17
namespace Go.Proofs.Ytkceaepbjdfccaa
open Go.RowKit
set_option maxRecDepth 100000 in
set_option maxHeartbeats 2000000 in
theorem writes_6_0 (w0 w : World) (o : Nat → Nat) (t : Nat) (M : Md) (vs : Nat → Value) (n : Nat) (h : WX w0 w o t (CM M) vs n) (hn : n ≤ 800) (wh nn : Int) (lb lc : List UInt8) (ba ca : Option Addr) (bq cq : Nat) (S : ByteArray)
    (hB : Inp w o (.slice ba lb.length bq) lb) (hC : Inp w o (.slice ca lc.length cq) lc) (hlb : lb.length ≤ 1048576) (hlc : lc.length ≤ 1048576) (hk : bits .and .i64 wh 1 = 0) (m : Ws) (hm : M.w0 = some m) :
    Calls Try.prog 44 #[.pointer (some ⟨t, 0, none⟩), .agg #[.int .i64 6, .int .i64 wh, .int .i64 nn, .slice ba lb.length bq, .slice ca lc.length cq, .string S]] w (Stp w0 t { M with w0 := some ⟨m.most, putL m.most m.s (withinE nn 256) [lo8 nn]⟩ } n) := by
  have H := Lib.hid h
  have HB := Lib.hid hB
  have HC := Lib.hid hC
  clear h hB hC
  have hbx : Bx (w.alloc (.cells #[.int .i64 6, .int .i64 wh, .int .i64 nn, .slice ba lb.length bq, .slice ca lc.length cq, .string S] 95)) w.heap.size 6 wh nn (.slice ba lb.length bq) (.slice ca lc.length cq) S := heap_alloc_new _ _
  have HBX := Lib.hid hbx
  clear hbx
  have hob : o w.heap.size = 0 := H.out.new (Nat.le_refl _)
  have HOB := Lib.hid hob
  clear hob
  go_enter Try.func44, Try.ntmps44
  go_upto_region 4 with (first
    | (go_at_call 58; (with_reducible refine (room_any (.slice ba lb.length bq) lb _ (HB.out.at (Fr.kp0 ((Kp.refl [] w).alloc _))) (by omega)).mono ?_); rintro e w1 ⟨gx, cx, rfl, hox, kx⟩; have HOX := Lib.hid hox; have HKX := Lib.hid (((Kp.refl [] w).alloc _).trans0 kx); have HKX1 := Lib.hid kx; have HBX1 := Lib.hid (HBX.out.kp kx (by simp)); obtain ⟨q0, q1, q2, q3, q4, q5⟩ := HBX1.out.c; clear hox kx)
    | (go_at_call 58; (with_reducible refine (room_any (.slice ca lc.length cq) lc _ (HC.out.at (Fr.kp0 HKX.out)) (by omega)).mono ?_); rintro e w2 ⟨gy, cy, rfl, hoy, ky⟩; have HOY := Lib.hid hoy; have HKY := Lib.hid (HKX.out.trans0 ky); have HBX2 := Lib.hid (HBX1.out.kp ky (by simp)); clear q0 q1 q2 q3 q4 q5; obtain ⟨q0, q1, q2, q3, q4, q5⟩ := HBX2.out.c; have HKY2 := Lib.hid ky; clear hoy ky)
    | fail)
  have HP : Hid (PB w0 w2 o t M vs n w.heap.size 6 wh nn (.slice ba lb.length bq) (.slice ca lc.length cq) S gx cx gy cy lb lc) := Lib.hid (PB.mk' H.out ((Kp.refl [] w).alloc _) HKX1.out HKY2.out HBX1.out HOB.out (by simp) HOX.out HOY.out HB.out HC.out hlb hlc hn)
  have hcx := HP.out.rx.cap.1
  have hcy := HP.out.ry.cap.1
  clear HBX HBX1 HBX2 HOX HOY HKX HKX1 HKY HKY2 HB HC H HOB
  have hxl : lb.length ≤ cx := by omega
  have hyl : lc.length ≤ cy := by omega
  have HC1 : Hid ((CM M) 0 = CW (some m)) := Lib.hid (by show CW M.w0 = CW (some m); rw [hm])
  have HC2 : Hid ((upd (CM M) 0 (CW (some ⟨m.most, putL m.most m.s (withinE nn 256) [lo8 nn]⟩))) 2 = CV (some m)) := Lib.hid (by rw [upd_ne _ _ (by decide)]; show CV M.w0 = CV (some m); rw [hm])
  clear hm
  have HS2 : Hid (SX w0 w2 o t w2 o (CM M) vs n) := Lib.hid (SX.start HP.out.hX)
  have ct0 := HS2.out.c 0 (by omega)
  go_upto_region 14 with fail
  go_region_held3 (fun W => W.cell? ⟨t, 0, none⟩ = some (vs 0) ∧ W.cell? ⟨w.heap.size, 2, none⟩ = some (.int .i64 nn)) (go_keep) (first
    | (go_at_call 31; (refine (wxU8 (HS2.out.kp0 (by (repeat (first | exact Kp.refl _ _ | assumption | refine Kp.drewN ?_ _ | refine Kp.drew ?_ | refine Kp.alloc ?_ _ | refine Kp.trans0 ?_ (by assumption))))).hx 0 (by omega) HC1.out nn).mono ?_); rintro e w3 ⟨rfl, hA⟩; obtain ⟨o3, hs3⟩ := (HS2.out.kp0 (by (repeat (first | exact Kp.refl _ _ | assumption | refine Kp.drewN ?_ _ | refine Kp.drew ?_ | refine Kp.alloc ?_ _ | refine Kp.trans0 ?_ (by assumption))))).after hA; have HS3 := Lib.hid hs3; clear hA hs3; (try clear q0 q1 q2 q3 q4 q5); obtain ⟨q0, q1, q2, q3, q4, q5⟩ := (HP.out.bc HS3.out.hf).c; have ct0 := HS3.out.c 0 (by omega)))
  
  have ct0 := HS3.out.c 2 (by omega)
  go_upto_region 15 with fail
  go_region_held3 (fun W => W.cell? ⟨t, 2, none⟩ = some (vs 2) ∧ W.cell? ⟨w.heap.size, 2, none⟩ = some (.int .i64 nn)) (go_keep) (first
    | (go_at_call 60; (refine (vxNum1 (HS3.out.kp0 (by (repeat (first | exact Kp.refl _ _ | assumption | refine Kp.drewN ?_ _ | refine Kp.drew ?_ | refine Kp.alloc ?_ _ | refine Kp.trans0 ?_ (by assumption))))).hx 2 (by omega) HC2.out nn).mono ?_); rintro e w4 ⟨rfl, hA⟩; obtain ⟨on, hs4⟩ := (HS3.out.kp0 (by (repeat (first | exact Kp.refl _ _ | assumption | refine Kp.drewN ?_ _ | refine Kp.drew ?_ | refine Kp.alloc ?_ _ | refine Kp.trans0 ?_ (by assumption))))).after hA; rw [CM_w0] at hs4; have HXn := Lib.hid hs4.hx; have HFn := Lib.hid hs4.hf; have HZn := Lib.hid hs4.hz; have ct0 := hs4.c 2 (by omega); clear hA hs4; (try clear q0 q1 q2 q3 q4 q5); obtain ⟨q0, q1, q2, q3, q4, q5⟩ := (HP.out.bc HFn.out).c))
  go_wp2_with (first
    | (go_at_call 65; (with_reducible refine (HP.out.kx HFn.out).mono ?_); rintro e wk1 ⟨rfl, kk⟩; have HFk1 := Lib.hid (HFn.out.next0 kk); have HXk1 := Lib.hid (HXn.out.kp0 kk); clear kk; (try clear q0 q1 q2 q3 q4 q5); obtain ⟨q0, q1, q2, q3, q4, q5⟩ := (HP.out.bc HFk1.out).c)
    | (go_at_call 65; (with_reducible refine (HP.out.ky HFk1.out).mono ?_); rintro e wk2 ⟨rfl, kk⟩; have HFk2 := Lib.hid (HFk1.out.next0 kk); have HXk2 := Lib.hid (HXk1.out.kp0 kk); clear kk)
    | (go_at_call 66; (with_reducible refine (HP.out.spx HFk2.out).mono ?_); rintro e wk3 ⟨rfl, kk⟩; have HK3x := Lib.hid kk; clear kk)
    | (go_at_call 66; (with_reducible refine (HP.out.spy HFk2.out HK3x.out).mono ?_); rintro e wk4 ⟨rfl, kk⟩; have HK4x := Lib.hid kk; clear kk)
    | fail)
  go_ret
  exact ⟨rfl, on, vs, n, HP.out.fin HXk2.out HZn.out HK3x.out HK4x.out, by omega⟩
set_option maxRecDepth 100000 in
set_option maxHeartbeats 2000000 in
theorem writes_7_0 (w0 w : World) (o : Nat → Nat) (t : Nat) (M : Md) (vs : Nat → Value) (n : Nat) (h : WX w0 w o t (CM M) vs n) (hn : n ≤ 800) (wh nn : Int) (lb lc : List UInt8) (ba ca : Option Addr) (bq cq : Nat) (S : ByteArray)
    (hB : Inp w o (.slice ba lb.length bq) lb) (hC : Inp w o (.slice ca lc.length cq) lc) (hlb : lb.length ≤ 1048576) (hlc : lc.length ≤ 1048576) (hk : bits .and .i64 wh 1 = 0) (m : Ws) (hm : M.w0 = some m) :
    Calls Try.prog 44 #[.pointer (some ⟨t, 0, none⟩), .agg #[.int .i64 7, .int .i64 wh, .int .i64 nn, .slice ba lb.length bq, .slice ca lc.length cq, .string S]] w (Stp w0 t { M with w0 := some ⟨m.most, putL m.most m.s (withinE nn 65536) (be16 nn)⟩ } n) := by
  have H := Lib.hid h
  have HB := Lib.hid hB
  have HC := Lib.hid hC
  clear h hB hC
  have hbx : Bx (w.alloc (.cells #[.int .i64 7, .int .i64 wh, .int .i64 nn, .slice ba lb.length bq, .slice ca lc.length cq, .string S] 95)) w.heap.size 7 wh nn (.slice ba lb.length bq) (.slice ca lc.length cq) S := heap_alloc_new _ _
  have HBX := Lib.hid hbx
  clear hbx
  have hob : o w.heap.size = 0 := H.out.new (Nat.le_refl _)
  have HOB := Lib.hid hob
  clear hob
  go_enter Try.func44, Try.ntmps44
  go_upto_region 4 with (first
    | (go_at_call 58; (with_reducible refine (room_any (.slice ba lb.length bq) lb _ (HB.out.at (Fr.kp0 ((Kp.refl [] w).alloc _))) (by omega)).mono ?_); rintro e w1 ⟨gx, cx, rfl, hox, kx⟩; have HOX := Lib.hid hox; have HKX := Lib.hid (((Kp.refl [] w).alloc _).trans0 kx); have HKX1 := Lib.hid kx; have HBX1 := Lib.hid (HBX.out.kp kx (by simp)); obtain ⟨q0, q1, q2, q3, q4, q5⟩ := HBX1.out.c; clear hox kx)
    | (go_at_call 58; (with_reducible refine (room_any (.slice ca lc.length cq) lc _ (HC.out.at (Fr.kp0 HKX.out)) (by omega)).mono ?_); rintro e w2 ⟨gy, cy, rfl, hoy, ky⟩; have HOY := Lib.hid hoy; have HKY := Lib.hid (HKX.out.trans0 ky); have HBX2 := Lib.hid (HBX1.out.kp ky (by simp)); clear q0 q1 q2 q3 q4 q5; obtain ⟨q0, q1, q2, q3, q4, q5⟩ := HBX2.out.c; have HKY2 := Lib.hid ky; clear hoy ky)
    | fail)
  have HP : Hid (PB w0 w2 o t M vs n w.heap.size 7 wh nn (.slice ba lb.length bq) (.slice ca lc.length cq) S gx cx gy cy lb lc) := Lib.hid (PB.mk' H.out ((Kp.refl [] w).alloc _) HKX1.out HKY2.out HBX1.out HOB.out (by simp) HOX.out HOY.out HB.out HC.out hlb hlc hn)
  have hcx := HP.out.rx.cap.1
  have hcy := HP.out.ry.cap.1
  clear HBX HBX1 HBX2 HOX HOY HKX HKX1 HKY HKY2 HB HC H HOB
  have hxl : lb.length ≤ cx := by omega
  have hyl : lc.length ≤ cy := by omega
  have HC1 : Hid ((CM M) 0 = CW (some m)) := Lib.hid (by show CW M.w0 = CW (some m); rw [hm])
  have HC2 : Hid ((upd (CM M) 0 (CW (some ⟨m.most, putL m.most m.s (withinE nn 65536) (be16 nn)⟩))) 2 = CV (some m)) := Lib.hid (by rw [upd_ne _ _ (by decide)]; show CV M.w0 = CV (some m); rw [hm])
  clear hm
  have HS2 : Hid (SX w0 w2 o t w2 o (CM M) vs n) := Lib.hid (SX.start HP.out.hX)
  have ct0 := HS2.out.c 0 (by omega)
  go_upto_region 17 with fail
  go_region_held3 (fun W => W.cell? ⟨t, 0, none⟩ = some (vs 0) ∧ W.cell? ⟨w.heap.size, 2, none⟩ = some (.int .i64 nn)) (go_keep) (first
    | (go_at_call 32; (refine (wxU16 (HS2.out.kp0 (by (repeat (first | exact Kp.refl _ _ | assumption | refine Kp.drewN ?_ _ | refine Kp.drew ?_ | refine Kp.alloc ?_ _ | refine Kp.trans0 ?_ (by assumption))))).hx 0 (by omega) HC1.out nn).mono ?_); rintro e w3 ⟨rfl, hA⟩; obtain ⟨o3, hs3⟩ := (HS2.out.kp0 (by (repeat (first | exact Kp.refl _ _ | assumption | refine Kp.drewN ?_ _ | refine Kp.drew ?_ | refine Kp.alloc ?_ _ | refine Kp.trans0 ?_ (by assumption))))).after hA; have HS3 := Lib.hid hs3; clear hA hs3; (try clear q0 q1 q2 q3 q4 q5); obtain ⟨q0, q1, q2, q3, q4, q5⟩ := (HP.out.bc HS3.out.hf).c; have ct0 := HS3.out.c 0 (by omega)))
  
  have ct0 := HS3.out.c 2 (by omega)
  go_upto_region 18 with fail
  go_region_held3 (fun W => W.cell? ⟨t, 2, none⟩ = some (vs 2) ∧ W.cell? ⟨w.heap.size, 2, none⟩ = some (.int .i64 nn)) (go_keep) (first
    | (go_at_call 60; (refine (vxNum2 (HS3.out.kp0 (by (repeat (first | exact Kp.refl _ _ | assumption | refine Kp.drewN ?_ _ | refine Kp.drew ?_ | refine Kp.alloc ?_ _ | refine Kp.trans0 ?_ (by assumption))))).hx 2 (by omega) HC2.out nn).mono ?_); rintro e w4 ⟨rfl, hA⟩; obtain ⟨on, hs4⟩ := (HS3.out.kp0 (by (repeat (first | exact Kp.refl _ _ | assumption | refine Kp.drewN ?_ _ | refine Kp.drew ?_ | refine Kp.alloc ?_ _ | refine Kp.trans0 ?_ (by assumption))))).after hA; rw [CM_w0] at hs4; have HXn := Lib.hid hs4.hx; have HFn := Lib.hid hs4.hf; have HZn := Lib.hid hs4.hz; have ct0 := hs4.c 2 (by omega); clear hA hs4; (try clear q0 q1 q2 q3 q4 q5); obtain ⟨q0, q1, q2, q3, q4, q5⟩ := (HP.out.bc HFn.out).c))
  go_wp2_with (first
    | (go_at_call 65; (with_reducible refine (HP.out.kx HFn.out).mono ?_); rintro e wk1 ⟨rfl, kk⟩; have HFk1 := Lib.hid (HFn.out.next0 kk); have HXk1 := Lib.hid (HXn.out.kp0 kk); clear kk; (try clear q0 q1 q2 q3 q4 q5); obtain ⟨q0, q1, q2, q3, q4, q5⟩ := (HP.out.bc HFk1.out).c)
    | (go_at_call 65; (with_reducible refine (HP.out.ky HFk1.out).mono ?_); rintro e wk2 ⟨rfl, kk⟩; have HFk2 := Lib.hid (HFk1.out.next0 kk); have HXk2 := Lib.hid (HXk1.out.kp0 kk); clear kk)
    | (go_at_call 66; (with_reducible refine (HP.out.spx HFk2.out).mono ?_); rintro e wk3 ⟨rfl, kk⟩; have HK3x := Lib.hid kk; clear kk)
    | (go_at_call 66; (with_reducible refine (HP.out.spy HFk2.out HK3x.out).mono ?_); rintro e wk4 ⟨rfl, kk⟩; have HK4x := Lib.hid kk; clear kk)
    | fail)
  go_ret
  exact ⟨rfl, on, vs, n, HP.out.fin HXk2.out HZn.out HK3x.out HK4x.out, by omega⟩
set_option maxRecDepth 100000 in
set_option maxHeartbeats 2000000 in
theorem writes_8_0 (w0 w : World) (o : Nat → Nat) (t : Nat) (M : Md) (vs : Nat → Value) (n : Nat) (h : WX w0 w o t (CM M) vs n) (hn : n ≤ 800) (wh nn : Int) (lb lc : List UInt8) (ba ca : Option Addr) (bq cq : Nat) (S : ByteArray)
    (hB : Inp w o (.slice ba lb.length bq) lb) (hC : Inp w o (.slice ca lc.length cq) lc) (hlb : lb.length ≤ 1048576) (hlc : lc.length ≤ 1048576) (hk : bits .and .i64 wh 1 = 0) (m : Ws) (hm : M.w0 = some m) :
    Calls Try.prog 44 #[.pointer (some ⟨t, 0, none⟩), .agg #[.int .i64 8, .int .i64 wh, .int .i64 nn, .slice ba lb.length bq, .slice ca lc.length cq, .string S]] w (Stp w0 t { M with w0 := some ⟨m.most, putL m.most m.s 0 (be32 (nn % 4294967296))⟩ } n) := by
  have H := Lib.hid h
  have HB := Lib.hid hB
  have HC := Lib.hid hC
  clear h hB hC
  have hbx : Bx (w.alloc (.cells #[.int .i64 8, .int .i64 wh, .int .i64 nn, .slice ba lb.length bq, .slice ca lc.length cq, .string S] 95)) w.heap.size 8 wh nn (.slice ba lb.length bq) (.slice ca lc.length cq) S := heap_alloc_new _ _
  have HBX := Lib.hid hbx
  clear hbx
  have hob : o w.heap.size = 0 := H.out.new (Nat.le_refl _)
  have HOB := Lib.hid hob
  clear hob
  go_enter Try.func44, Try.ntmps44
  go_upto_region 4 with (first
    | (go_at_call 58; (with_reducible refine (room_any (.slice ba lb.length bq) lb _ (HB.out.at (Fr.kp0 ((Kp.refl [] w).alloc _))) (by omega)).mono ?_); rintro e w1 ⟨gx, cx, rfl, hox, kx⟩; have HOX := Lib.hid hox; have HKX := Lib.hid (((Kp.refl [] w).alloc _).trans0 kx); have HKX1 := Lib.hid kx; have HBX1 := Lib.hid (HBX.out.kp kx (by simp)); obtain ⟨q0, q1, q2, q3, q4, q5⟩ := HBX1.out.c; clear hox kx)
    | (go_at_call 58; (with_reducible refine (room_any (.slice ca lc.length cq) lc _ (HC.out.at (Fr.kp0 HKX.out)) (by omega)).mono ?_); rintro e w2 ⟨gy, cy, rfl, hoy, ky⟩; have HOY := Lib.hid hoy; have HKY := Lib.hid (HKX.out.trans0 ky); have HBX2 := Lib.hid (HBX1.out.kp ky (by simp)); clear q0 q1 q2 q3 q4 q5; obtain ⟨q0, q1, q2, q3, q4, q5⟩ := HBX2.out.c; have HKY2 := Lib.hid ky; clear hoy ky)
    | fail)
  have HP : Hid (PB w0 w2 o t M vs n w.heap.size 8 wh nn (.slice ba lb.length bq) (.slice ca lc.length cq) S gx cx gy cy lb lc) := Lib.hid (PB.mk' H.out ((Kp.refl [] w).alloc _) HKX1.out HKY2.out HBX1.out HOB.out (by simp) HOX.out HOY.out HB.out HC.out hlb hlc hn)
  have hcx := HP.out.rx.cap.1
  have hcy := HP.out.ry.cap.1
  clear HBX HBX1 HBX2 HOX HOY HKX HKX1 HKY HKY2 HB HC H HOB
  have hxl : lb.length ≤ cx := by omega
  have hyl : lc.length ≤ cy := by omega
  have hX0 : 0 ≤ nn % 4294967296 := Int.emod_nonneg _ (by decide)
  have hX1 : nn % 4294967296 < 4294967296 := Int.emod_lt_of_pos _ (by decide)
  have hand := and32 nn
  have hcv := wrap_u32 _ hX0 hX1
  have hcv2 : nn % 4294967296 % 4294967296 = nn % 4294967296 := by omega
  generalize nn % 4294967296 = X at *
  have HC1 : Hid ((CM M) 0 = CW (some m)) := Lib.hid (by show CW M.w0 = CW (some m); rw [hm])
  have HC2 : Hid ((upd (CM M) 0 (CW (some ⟨m.most, putL m.most m.s 0 (be32 (nn % 4294967296))⟩))) 2 = CV (some m)) := Lib.hid (by rw [upd_ne _ _ (by decide)]; show CV M.w0 = CV (some m); rw [hm])
  clear hm
  have HS2 : Hid (SX w0 w2 o t w2 o (CM M) vs n) := Lib.hid (SX.start HP.out.hX)
  have ct0 := HS2.out.c 0 (by omega)
  go_upto_region 20 with fail
  go_region_held3 (fun W => W.cell? ⟨t, 0, none⟩ = some (vs 0) ∧ W.cell? ⟨w.heap.size, 2, none⟩ = some (.int .i64 nn)) (go_keep) (first
    | (go_at_call 34; (refine (wxU32 (HS2.out.kp0 (by (repeat (first | exact Kp.refl _ _ | assumption | refine Kp.drewN ?_ _ | refine Kp.drew ?_ | refine Kp.alloc ?_ _ | refine Kp.trans0 ?_ (by assumption))))).hx 0 (by omega) HC1.out X hX0 hX1).mono ?_); rintro e w3 ⟨rfl, hA⟩; obtain ⟨o3, hs3⟩ := (HS2.out.kp0 (by (repeat (first | exact Kp.refl _ _ | assumption | refine Kp.drewN ?_ _ | refine Kp.drew ?_ | refine Kp.alloc ?_ _ | refine Kp.trans0 ?_ (by assumption))))).after hA; have HS3 := Lib.hid hs3; clear hA hs3; (try clear q0 q1 q2 q3 q4 q5); obtain ⟨q0, q1, q2, q3, q4, q5⟩ := (HP.out.bc HS3.out.hf).c; have ct0 := HS3.out.c 0 (by omega)))
  
  have ct0 := HS3.out.c 2 (by omega)
  go_upto_region 21 with fail
  go_region_held3 (fun W => W.cell? ⟨t, 2, none⟩ = some (vs 2) ∧ W.cell? ⟨w.heap.size, 2, none⟩ = some (.int .i64 nn)) (go_keep) (first
    | (go_at_call 60; (refine (vxNum4 (HS3.out.kp0 (by (repeat (first | exact Kp.refl _ _ | assumption | refine Kp.drewN ?_ _ | refine Kp.drew ?_ | refine Kp.alloc ?_ _ | refine Kp.trans0 ?_ (by assumption))))).hx 2 (by omega) HC2.out X hX0 hX1).mono ?_); rintro e w4 ⟨rfl, hA⟩; obtain ⟨on, hs4⟩ := (HS3.out.kp0 (by (repeat (first | exact Kp.refl _ _ | assumption | refine Kp.drewN ?_ _ | refine Kp.drew ?_ | refine Kp.alloc ?_ _ | refine Kp.trans0 ?_ (by assumption))))).after hA; rw [CM_w0] at hs4; have HXn := Lib.hid hs4.hx; have HFn := Lib.hid hs4.hf; have HZn := Lib.hid hs4.hz; have ct0 := hs4.c 2 (by omega); clear hA hs4; (try clear q0 q1 q2 q3 q4 q5); obtain ⟨q0, q1, q2, q3, q4, q5⟩ := (HP.out.bc HFn.out).c))
  go_wp2_with (first
    | (go_at_call 65; (with_reducible refine (HP.out.kx HFn.out).mono ?_); rintro e wk1 ⟨rfl, kk⟩; have HFk1 := Lib.hid (HFn.out.next0 kk); have HXk1 := Lib.hid (HXn.out.kp0 kk); clear kk; (try clear q0 q1 q2 q3 q4 q5); obtain ⟨q0, q1, q2, q3, q4, q5⟩ := (HP.out.bc HFk1.out).c)
    | (go_at_call 65; (with_reducible refine (HP.out.ky HFk1.out).mono ?_); rintro e wk2 ⟨rfl, kk⟩; have HFk2 := Lib.hid (HFk1.out.next0 kk); have HXk2 := Lib.hid (HXk1.out.kp0 kk); clear kk)
    | (go_at_call 66; (with_reducible refine (HP.out.spx HFk2.out).mono ?_); rintro e wk3 ⟨rfl, kk⟩; have HK3x := Lib.hid kk; clear kk)
    | (go_at_call 66; (with_reducible refine (HP.out.spy HFk2.out HK3x.out).mono ?_); rintro e wk4 ⟨rfl, kk⟩; have HK4x := Lib.hid kk; clear kk)
    | fail)
  go_ret
  exact ⟨rfl, on, vs, n, HP.out.fin HXk2.out HZn.out HK3x.out HK4x.out, by omega⟩
set_option maxRecDepth 100000 in
set_option maxHeartbeats 2000000 in
theorem writes_10_0 (w0 w : World) (o : Nat → Nat) (t : Nat) (M : Md) (vs : Nat → Value) (n : Nat) (h : WX w0 w o t (CM M) vs n) (hn : n ≤ 800) (wh nn : Int) (lb lc : List UInt8) (ba ca : Option Addr) (bq cq : Nat) (S : ByteArray)
    (hB : Inp w o (.slice ba lb.length bq) lb) (hC : Inp w o (.slice ca lc.length cq) lc) (hlb : lb.length ≤ 1048576) (hlc : lc.length ≤ 1048576) (hk : bits .and .i64 wh 1 = 0) (m : Ws) (hm : M.w0 = some m) :
    Calls Try.prog 44 #[.pointer (some ⟨t, 0, none⟩), .agg #[.int .i64 10, .int .i64 wh, .int .i64 nn, .slice ba lb.length bq, .slice ca lc.length cq, .string S]] w (Stp w0 t { M with w0 := some ⟨m.most, putL m.most m.s (runE lb) (be16 lb.length ++ lb)⟩ } n) := by
  have H := Lib.hid h
  have HB := Lib.hid hB
  have HC := Lib.hid hC
  clear h hB hC
  have hbx : Bx (w.alloc (.cells #[.int .i64 10, .int .i64 wh, .int .i64 nn, .slice ba lb.length bq, .slice ca lc.length cq, .string S] 95)) w.heap.size 10 wh nn (.slice ba lb.length bq) (.slice ca lc.length cq) S := heap_alloc_new _ _
  have HBX := Lib.hid hbx
  clear hbx
  have hob : o w.heap.size = 0 := H.out.new (Nat.le_refl _)
  have HOB := Lib.hid hob
  clear hob
  go_enter Try.func44, Try.ntmps44
  go_upto_region 4 with (first
    | (go_at_call 58; (with_reducible refine (room_any (.slice ba lb.length bq) lb _ (HB.out.at (Fr.kp0 ((Kp.refl [] w).alloc _))) (by omega)).mono ?_); rintro e w1 ⟨gx, cx, rfl, hox, kx⟩; have HOX := Lib.hid hox; have HKX := Lib.hid (((Kp.refl [] w).alloc _).trans0 kx); have HKX1 := Lib.hid kx; have HBX1 := Lib.hid (HBX.out.kp kx (by simp)); obtain ⟨q0, q1, q2, q3, q4, q5⟩ := HBX1.out.c; clear hox kx)
    | (go_at_call 58; (with_reducible refine (room_any (.slice ca lc.length cq) lc _ (HC.out.at (Fr.kp0 HKX.out)) (by omega)).mono ?_); rintro e w2 ⟨gy, cy, rfl, hoy, ky⟩; have HOY := Lib.hid hoy; have HKY := Lib.hid (HKX.out.trans0 ky); have HBX2 := Lib.hid (HBX1.out.kp ky (by simp)); clear q0 q1 q2 q3 q4 q5; obtain ⟨q0, q1, q2, q3, q4, q5⟩ := HBX2.out.c; have HKY2 := Lib.hid ky; clear hoy ky)
    | fail)
  have HP : Hid (PB w0 w2 o t M vs n w.heap.size 10 wh nn (.slice ba lb.length bq) (.slice ca lc.length cq) S gx cx gy cy lb lc) := Lib.hid (PB.mk' H.out ((Kp.refl [] w).alloc _) HKX1.out HKY2.out HBX1.out HOB.out (by simp) HOX.out HOY.out HB.out HC.out hlb hlc hn)
  have hcx := HP.out.rx.cap.1
  have hcy := HP.out.ry.cap.1
  clear HBX HBX1 HBX2 HOX HOY HKX HKX1 HKY HKY2 HB HC H HOB
  have hxl : lb.length ≤ cx := by omega
  have hyl : lc.length ≤ cy := by omega
  have HC1 : Hid ((CM M) 0 = CW (some m)) := Lib.hid (by show CW M.w0 = CW (some m); rw [hm])
  have HC2 : Hid ((upd (CM M) 0 (CW (some ⟨m.most, putL m.most m.s (runE lb) (be16 lb.length ++ lb)⟩))) 2 = CV (some m)) := Lib.hid (by rw [upd_ne _ _ (by decide)]; show CV M.w0 = CV (some m); rw [hm])
  clear hm
  have HS2 : Hid (SX w0 w2 o t w2 o (CM M) vs n) := Lib.hid (SX.start HP.out.hX)
  have ct0 := HS2.out.c 0 (by omega)
  go_upto_region 26 with fail
  go_region_held3 (fun W => W.cell? ⟨t, 0, none⟩ = some (vs 0) ∧ W.cell? ⟨w.heap.size, 3, none⟩ = some (.slice ba lb.length bq)) (go_keep) (first
    | (go_at_call 33; (refine (wxRun (HS2.out.kp0 (by (repeat (first | exact Kp.refl _ _ | assumption | refine Kp.drewN ?_ _ | refine Kp.drew ?_ | refine Kp.alloc ?_ _ | refine Kp.trans0 ?_ (by assumption))))).hx 0 (by omega) HC1.out (.slice (some ⟨gx, 0, none⟩) lb.length cx) lb (HP.out.rx.sub.kp0 (by (repeat (first | exact Kp.refl _ _ | assumption | refine Kp.drewN ?_ _ | refine Kp.drew ?_ | refine Kp.alloc ?_ _ | refine Kp.trans0 ?_ (by assumption))))) (fun b hb => by have : some gx = some b := mem_ob.1 hb; injection this with h1; subst h1; exact HP.out.rx.og) (by omega)).mono ?_); rintro e w3 ⟨rfl, hA⟩; obtain ⟨o3, hs3⟩ := (HS2.out.kp0 (by (repeat (first | exact Kp.refl _ _ | assumption | refine Kp.drewN ?_ _ | refine Kp.drew ?_ | refine Kp.alloc ?_ _ | refine Kp.trans0 ?_ (by assumption))))).after hA; have HS3 := Lib.hid hs3; clear hA hs3; (try clear q0 q1 q2 q3 q4 q5); obtain ⟨q0, q1, q2, q3, q4, q5⟩ := (HP.out.bc HS3.out.hf).c; have ct0 := HS3.out.c 0 (by omega)))
  
  have ct0 := HS3.out.c 2 (by omega)
  go_upto_region 27 with fail
  go_region_held3 (fun W => W.cell? ⟨t, 2, none⟩ = some (vs 2) ∧ W.cell? ⟨w.heap.size, 3, none⟩ = some (.slice ba lb.length bq)) (go_keep) (first
    | (go_at_call 62; (refine (vxRun (HS3.out.kp0 (by (repeat (first | exact Kp.refl _ _ | assumption | refine Kp.drewN ?_ _ | refine Kp.drew ?_ | refine Kp.alloc ?_ _ | refine Kp.trans0 ?_ (by assumption))))).hx 2 (by omega) HC2.out (.slice ba lb.length bq) lb ((HP.out.iB.at HS3.out.hf).kp0 (by (repeat (first | exact Kp.refl _ _ | assumption | refine Kp.drewN ?_ _ | refine Kp.drew ?_ | refine Kp.alloc ?_ _ | refine Kp.trans0 ?_ (by assumption))))) (by omega)).mono ?_); rintro e w4 ⟨rfl, hA⟩; obtain ⟨on, hs4⟩ := (HS3.out.kp0 (by (repeat (first | exact Kp.refl _ _ | assumption | refine Kp.drewN ?_ _ | refine Kp.drew ?_ | refine Kp.alloc ?_ _ | refine Kp.trans0 ?_ (by assumption))))).after hA; rw [CM_w0] at hs4; have HXn := Lib.hid hs4.hx; have HFn := Lib.hid hs4.hf; have HZn := Lib.hid hs4.hz; have ct0 := hs4.c 2 (by omega); clear hA hs4; (try clear q0 q1 q2 q3 q4 q5); obtain ⟨q0, q1, q2, q3, q4, q5⟩ := (HP.out.bc HFn.out).c))
  go_wp2_with (first
    | (go_at_call 65; (with_reducible refine (HP.out.kx HFn.out).mono ?_); rintro e wk1 ⟨rfl, kk⟩; have HFk1 := Lib.hid (HFn.out.next0 kk); have HXk1 := Lib.hid (HXn.out.kp0 kk); clear kk; (try clear q0 q1 q2 q3 q4 q5); obtain ⟨q0, q1, q2, q3, q4, q5⟩ := (HP.out.bc HFk1.out).c)
    | (go_at_call 65; (with_reducible refine (HP.out.ky HFk1.out).mono ?_); rintro e wk2 ⟨rfl, kk⟩; have HFk2 := Lib.hid (HFk1.out.next0 kk); have HXk2 := Lib.hid (HXk1.out.kp0 kk); clear kk)
    | (go_at_call 66; (with_reducible refine (HP.out.spx HFk2.out).mono ?_); rintro e wk3 ⟨rfl, kk⟩; have HK3x := Lib.hid kk; clear kk)
    | (go_at_call 66; (with_reducible refine (HP.out.spy HFk2.out HK3x.out).mono ?_); rintro e wk4 ⟨rfl, kk⟩; have HK4x := Lib.hid kk; clear kk)
    | fail)
  go_ret
  exact ⟨rfl, on, vs, n, HP.out.fin HXk2.out HZn.out HK3x.out HK4x.out, by omega⟩
end Go.Proofs.Ytkceaepbjdfccaa
