/-
table.writes
-/
import Derived.Test.YtkceaepbjdfccaaWx17
namespace Go.Proofs.Ytkceaepbjdfccaa
open Go.RowKit
set_option maxRecDepth 100000 in
set_option maxHeartbeats 2000000 in
theorem writes_5_0y (w0 w : World) (o : Nat → Nat) (t : Nat) (M : Md) (vs : Nat → Value) (n : Nat) (h : WX w0 w o t (CM M) vs n) (hn : n ≤ 800) (wh nn : Int) (lb lc : List UInt8) (ba ca : Option Addr) (bq cq : Nat) (S : ByteArray)
    (hB : Inp w o (.slice ba lb.length bq) lb) (hC : Inp w o (.slice ca lc.length cq) lc) (hlb : lb.length ≤ 1048576) (hlc : lc.length ≤ 1048576) (hk : bits .and .i64 wh 1 = 0) (h0 : 0 ≤ nn) (h1 : nn ≤ 1048576) :
    Calls Try.prog 44 #[.pointer (some ⟨t, 0, none⟩), .agg #[.int .i64 5, .int .i64 wh, .int .i64 nn, .slice ba lb.length bq, .slice ca lc.length cq, .string S]] w (Stp w0 t { M with w0 := some ⟨nn, ([], 0)⟩ } n) := by
  have H := Lib.hid h
  have HB := Lib.hid hB
  have HC := Lib.hid hC
  clear h hB hC
  have hbx : Bx (w.alloc (.cells #[.int .i64 5, .int .i64 wh, .int .i64 nn, .slice ba lb.length bq, .slice ca lc.length cq, .string S] 95)) w.heap.size 5 wh nn (.slice ba lb.length bq) (.slice ca lc.length cq) S := heap_alloc_new _ _
  have HBX := Lib.hid hbx
  clear hbx
  have hob : o w.heap.size = 0 := H.out.new (Nat.le_refl _)
  have HOB := Lib.hid hob
  clear hob
  go_enter Try.func44, Try.ntmps44
  go_upto_region 4 with (first
    | (go_at_call 58; (with_reducible refine (room_any (.slice ba lb.length bq) lb _ (HB.out.at (Fr.kp0 ((Kp.refl [] w).alloc _))) (by omega)).mono ?_); rintro e w1 ⟨gx, cx, rfl, hox, kx⟩; have HOX := Lib.hid hox; have HKX := Lib.hid (((Kp.refl [] w).alloc _).trans0 kx); have HKX1 := Lib.hid kx; have HBX1 := Lib.hid (HBX.out.kp kx (by simp)); obtain ⟨q0, q1, q2, q3, q4, q5⟩ := HBX1.out.c; clear hox kx)
    | (go_at_call 58; (with_reducible refine (room_any (.slice ca lc.length cq) lc _ (HC.out.at (Fr.kp0 HKX.out)) (by omega)).mono ?_); rintro e w2 ⟨gy, cy, rfl, hoy, ky⟩; have HOY := Lib.hid hoy; have HKY := Lib.hid (HKX.out.trans0 ky); have HBX2 := Lib.hid (HBX1.out.kp ky (by simp)); clear q0 q1 q2 q3 q4 q5; obtain ⟨q0, q1, q2, q3, q4, q5⟩ := HBX2.out.c; have HKY2 := Lib.hid ky; clear hoy ky)
    | fail)
  have HP : Hid (PB w0 w2 o t M vs n w.heap.size 5 wh nn (.slice ba lb.length bq) (.slice ca lc.length cq) S gx cx gy cy lb lc) := Lib.hid (PB.mk' H.out ((Kp.refl [] w).alloc _) HKX1.out HKY2.out HBX1.out HOB.out (by simp) HOX.out HOY.out HB.out HC.out hlb hlc hn)
  have hcx := HP.out.rx.cap.1
  have hcy := HP.out.ry.cap.1
  clear HBX HBX1 HBX2 HOX HOY HKX HKX1 HKY HKY2 HB HC H HOB
  have hxl : lb.length ≤ cx := by omega
  have hyl : lc.length ≤ cy := by omega
  have HS2 : Hid (SX w0 w2 o t w2 o (CM M) vs n) := Lib.hid (SX.start HP.out.hX)
  have H0 := Lib.hid h0
  have H1 := Lib.hid h1
  clear h0 h1
  have HOZ : Hid (o w2.heap.size = 0) := Lib.hid (HP.out.hX.new (Nat.le_refl _))
  have HTL : Hid (t < w2.heap.size) := Lib.hid ((HP.out.hX.old t (by rw [HP.out.hX.ot]; omega)).2)
  go_wp2_with (first
    | (go_at_call 29; ((refine (newWriter_yes nn w2 H0.out H1.out).mono ?_); rintro e w3 ⟨rfl, hW, k⟩; have HW3 := Lib.hid hW; have HK3 := Lib.hid k; have HF3 := Lib.hid (HS2.out.kp0 k).hf; clear hW k; (try clear q0 q1 q2 q3 q4 q5); obtain ⟨q0, q1, q2, q3, q4, q5⟩ := (HP.out.bc HF3.out).c))
    | (go_at_call 59; ((refine (vnew_yes nn w3 H0.out H1.out).mono ?_); rintro e w4 ⟨rfl, hV, k⟩; have HV4 := Lib.hid hV; have HW4 := Lib.hid (HW3.out.kp0 k); have HK4 := Lib.hid (HK3.out.trans0 k); have HK34 := Lib.hid k; have HS4 := Lib.hid (HS2.out.kp0 HK4.out); clear hV k; have f0 := HS4.out.f 0; have ct0 := HS4.out.c 0 (by omega); have hs5 := HS4.out.newW HP.out.hX.kp.size 0 (by omega) HW4.out (Nat.le_refl _) HOZ.out HK4.out.size; have f1 := hs5.f 2; have ct1 := hs5.c 2 (by omega); have HW2 : Hid (w2.heap.size < w3.heap.size) := Lib.hid (Array.getElem?_eq_some_iff.1 HW3.out.hp).1; have hs6 := hs5.newV HP.out.hX.kp.size 2 (by omega) (HV4.out.kp ((Kp.refl [t] w4).setCell (p := ⟨t, 0, none⟩) (.inl (by simp)) _) (by rw [List.mem_singleton]; have := HTL.out; have := HK3.out.size; omega) (fun b hb => by cases hb)) HK3.out.size (by rw [asg_out (by rw [List.mem_singleton]; have := HW2.out; omega)]; exact HP.out.hX.new HK3.out.size) (by simp; exact HK34.out.size); rw [CM_w0] at hs6; have HXn := Lib.hid hs6.hx; have HFn := Lib.hid hs6.hf; have HZn := Lib.hid hs6.hz; clear hs5 hs6; (try clear q0 q1 q2 q3 q4 q5); obtain ⟨q0, q1, q2, q3, q4, q5⟩ := (HP.out.bc HFn.out).c))
    | (go_at_call 65; (with_reducible refine (HP.out.kx HFn.out).mono ?_); rintro e wk1 ⟨rfl, kk⟩; have HFk1 := Lib.hid (HFn.out.next0 kk); have HXk1 := Lib.hid (HXn.out.kp0 kk); clear kk; (try clear q0 q1 q2 q3 q4 q5); obtain ⟨q0, q1, q2, q3, q4, q5⟩ := (HP.out.bc HFk1.out).c)
    | (go_at_call 65; (with_reducible refine (HP.out.ky HFk1.out).mono ?_); rintro e wk2 ⟨rfl, kk⟩; have HFk2 := Lib.hid (HFk1.out.next0 kk); have HXk2 := Lib.hid (HXk1.out.kp0 kk); clear kk)
    | (go_at_call 66; (with_reducible refine (HP.out.spx HFk2.out).mono ?_); rintro e wk3 ⟨rfl, kk⟩; have HK3x := Lib.hid kk; clear kk)
    | (go_at_call 66; (with_reducible refine (HP.out.spy HFk2.out HK3x.out).mono ?_); rintro e wk4 ⟨rfl, kk⟩; have HK4x := Lib.hid kk; clear kk)
    | fail)
  go_ret
  exact ⟨rfl, _, _, n, HP.out.fin HXk2.out HZn.out HK3x.out HK4x.out, by omega⟩
set_option maxRecDepth 100000 in
set_option maxHeartbeats 2000000 in
theorem writes_5_0n (w0 w : World) (o : Nat → Nat) (t : Nat) (M : Md) (vs : Nat → Value) (n : Nat) (h : WX w0 w o t (CM M) vs n) (hn : n ≤ 800) (wh nn : Int) (lb lc : List UInt8) (ba ca : Option Addr) (bq cq : Nat) (S : ByteArray)
    (hB : Inp w o (.slice ba lb.length bq) lb) (hC : Inp w o (.slice ca lc.length cq) lc) (hlb : lb.length ≤ 1048576) (hlc : lc.length ≤ 1048576) (hk : bits .and .i64 wh 1 = 0) (h0 : nn < 0 ∨ 1048576 < nn) :
    Calls Try.prog 44 #[.pointer (some ⟨t, 0, none⟩), .agg #[.int .i64 5, .int .i64 wh, .int .i64 nn, .slice ba lb.length bq, .slice ca lc.length cq, .string S]] w (Stp w0 t M n) := by
  have H := Lib.hid h
  have HB := Lib.hid hB
  have HC := Lib.hid hC
  clear h hB hC
  have hbx : Bx (w.alloc (.cells #[.int .i64 5, .int .i64 wh, .int .i64 nn, .slice ba lb.length bq, .slice ca lc.length cq, .string S] 95)) w.heap.size 5 wh nn (.slice ba lb.length bq) (.slice ca lc.length cq) S := heap_alloc_new _ _
  have HBX := Lib.hid hbx
  clear hbx
  have hob : o w.heap.size = 0 := H.out.new (Nat.le_refl _)
  have HOB := Lib.hid hob
  clear hob
  go_enter Try.func44, Try.ntmps44
  go_upto_region 4 with (first
    | (go_at_call 58; (with_reducible refine (room_any (.slice ba lb.length bq) lb _ (HB.out.at (Fr.kp0 ((Kp.refl [] w).alloc _))) (by omega)).mono ?_); rintro e w1 ⟨gx, cx, rfl, hox, kx⟩; have HOX := Lib.hid hox; have HKX := Lib.hid (((Kp.refl [] w).alloc _).trans0 kx); have HKX1 := Lib.hid kx; have HBX1 := Lib.hid (HBX.out.kp kx (by simp)); obtain ⟨q0, q1, q2, q3, q4, q5⟩ := HBX1.out.c; clear hox kx)
    | (go_at_call 58; (with_reducible refine (room_any (.slice ca lc.length cq) lc _ (HC.out.at (Fr.kp0 HKX.out)) (by omega)).mono ?_); rintro e w2 ⟨gy, cy, rfl, hoy, ky⟩; have HOY := Lib.hid hoy; have HKY := Lib.hid (HKX.out.trans0 ky); have HBX2 := Lib.hid (HBX1.out.kp ky (by simp)); clear q0 q1 q2 q3 q4 q5; obtain ⟨q0, q1, q2, q3, q4, q5⟩ := HBX2.out.c; have HKY2 := Lib.hid ky; clear hoy ky)
    | fail)
  have HP : Hid (PB w0 w2 o t M vs n w.heap.size 5 wh nn (.slice ba lb.length bq) (.slice ca lc.length cq) S gx cx gy cy lb lc) := Lib.hid (PB.mk' H.out ((Kp.refl [] w).alloc _) HKX1.out HKY2.out HBX1.out HOB.out (by simp) HOX.out HOY.out HB.out HC.out hlb hlc hn)
  have hcx := HP.out.rx.cap.1
  have hcy := HP.out.ry.cap.1
  clear HBX HBX1 HBX2 HOX HOY HKX HKX1 HKY HKY2 HB HC H HOB
  have hxl : lb.length ≤ cx := by omega
  have hyl : lc.length ≤ cy := by omega
  have HS2 : Hid (SX w0 w2 o t w2 o (CM M) vs n) := Lib.hid (SX.start HP.out.hX)
  have H0 := Lib.hid h0
  clear h0
  have HXn := Lib.hid HS2.out.hx
  have HFn := Lib.hid HS2.out.hf
  go_wp2_with (first
    | (go_at_call 29; ((refine (newWriter_no nn w2 H0.out).mono ?_); rintro e w3 ⟨rfl, rfl⟩))
    | (go_at_call 59; ((refine (vnew_no nn w2 H0.out).mono ?_); rintro e w4 ⟨rfl, rfl⟩))
    | (go_at_call 65; (with_reducible refine (HP.out.kx HFn.out).mono ?_); rintro e wk1 ⟨rfl, kk⟩; have HFk1 := Lib.hid (HFn.out.next0 kk); have HXk1 := Lib.hid (HXn.out.kp0 kk); clear kk; (try clear q0 q1 q2 q3 q4 q5); obtain ⟨q0, q1, q2, q3, q4, q5⟩ := (HP.out.bc HFk1.out).c)
    | (go_at_call 65; (with_reducible refine (HP.out.ky HFk1.out).mono ?_); rintro e wk2 ⟨rfl, kk⟩; have HFk2 := Lib.hid (HFk1.out.next0 kk); have HXk2 := Lib.hid (HXk1.out.kp0 kk); clear kk)
    | (go_at_call 66; (with_reducible refine (HP.out.spx HFk2.out).mono ?_); rintro e wk3 ⟨rfl, kk⟩; have HK3x := Lib.hid kk; clear kk)
    | (go_at_call 66; (with_reducible refine (HP.out.spy HFk2.out HK3x.out).mono ?_); rintro e wk4 ⟨rfl, kk⟩; have HK4x := Lib.hid kk; clear kk)
    | fail)
  go_ret
  exact ⟨rfl, o, vs, n, HP.out.fin HXk2.out HS2.out.hz HK3x.out HK4x.out, by omega⟩
set_option maxRecDepth 100000 in
set_option maxHeartbeats 2000000 in
theorem writes_9_0 (w0 w : World) (o : Nat → Nat) (t : Nat) (M : Md) (vs : Nat → Value) (n : Nat) (h : WX w0 w o t (CM M) vs n) (hn : n ≤ 800) (wh nn : Int) (lb lc : List UInt8) (ba ca : Option Addr) (bq cq : Nat) (S : ByteArray)
    (hB : Inp w o (.slice ba lb.length bq) lb) (hC : Inp w o (.slice ca lc.length cq) lc) (hlb : lb.length ≤ 1048576) (hlc : lc.length ≤ 1048576) (hk : bits .and .i64 wh 1 = 0) (m : Ws) (hm : M.w0 = some m) :
    Calls Try.prog 44 #[.pointer (some ⟨t, 0, none⟩), .agg #[.int .i64 9, .int .i64 wh, .int .i64 nn, .slice ba lb.length bq, .slice ca lc.length cq, .string S]] w (Stp w0 t { M with w0 := some ⟨m.most, putL m.most m.s 0 [lb, lc].flatten⟩ } n) := by
  have H := Lib.hid h
  have HB := Lib.hid hB
  have HC := Lib.hid hC
  clear h hB hC
  have hbx : Bx (w.alloc (.cells #[.int .i64 9, .int .i64 wh, .int .i64 nn, .slice ba lb.length bq, .slice ca lc.length cq, .string S] 95)) w.heap.size 9 wh nn (.slice ba lb.length bq) (.slice ca lc.length cq) S := heap_alloc_new _ _
  have HBX := Lib.hid hbx
  clear hbx
  have hob : o w.heap.size = 0 := H.out.new (Nat.le_refl _)
  have HOB := Lib.hid hob
  clear hob
  go_enter Try.func44, Try.ntmps44
  go_upto_region 4 with (first
    | (go_at_call 58; (with_reducible refine (room_any (.slice ba lb.length bq) lb _ (HB.out.at (Fr.kp0 ((Kp.refl [] w).alloc _))) (by omega)).mono ?_); rintro e w1 ⟨gx, cx, rfl, hox, kx⟩; have HOX := Lib.hid hox; have HKX := Lib.hid (((Kp.refl [] w).alloc _).trans0 kx); have HKX1 := Lib.hid kx; have HBX1 := Lib.hid (HBX.out.kp kx (by simp)); obtain ⟨q0, q1, q2, q3, q4, q5⟩ := HBX1.out.c; clear hox kx)
    | (go_at_call 58; (with_reducible refine (room_any (.slice ca lc.length cq) lc _ (HC.out.at (Fr.kp0 HKX.out)) (by omega)).mono ?_); rintro e w2 ⟨gy, cy, rfl, hoy, ky⟩; have HOY := Lib.hid hoy; have HKY := Lib.hid (HKX.out.trans0 ky); have HBX2 := Lib.hid (HBX1.out.kp ky (by simp)); clear q0 q1 q2 q3 q4 q5; obtain ⟨q0, q1, q2, q3, q4, q5⟩ := HBX2.out.c; have HKY2 := Lib.hid ky; clear hoy ky)
    | fail)
  have HP : Hid (PB w0 w2 o t M vs n w.heap.size 9 wh nn (.slice ba lb.length bq) (.slice ca lc.length cq) S gx cx gy cy lb lc) := Lib.hid (PB.mk' H.out ((Kp.refl [] w).alloc _) HKX1.out HKY2.out HBX1.out HOB.out (by simp) HOX.out HOY.out HB.out HC.out hlb hlc hn)
  have hcx := HP.out.rx.cap.1
  have hcy := HP.out.ry.cap.1
  clear HBX HBX1 HBX2 HOX HOY HKX HKX1 HKY HKY2 HB HC H HOB
  have hxl : lb.length ≤ cx := by omega
  have hyl : lc.length ≤ cy := by omega
  have HC1 : Hid ((CM M) 0 = CW (some m)) := Lib.hid (by show CW M.w0 = CW (some m); rw [hm])
  have HC2 : Hid ((upd (CM M) 0 (CW (some ⟨m.most, putL m.most m.s 0 [lb, lc].flatten⟩))) 2 = CV (some m)) := Lib.hid (by rw [upd_ne _ _ (by decide)]; show CV M.w0 = CV (some m); rw [hm])
  clear hm
  have HS2 : Hid (SX w0 w2 o t w2 o (CM M) vs n) := Lib.hid (SX.start HP.out.hX)
  have ct0 := HS2.out.c 0 (by omega)
  go_upto_region 23 with fail
  go_region_held3 (fun W => W.cell? ⟨t, 0, none⟩ = some (vs 0) ∧ W.cell? ⟨w.heap.size, 3, none⟩ = some (.slice ba lb.length bq) ∧ W.cell? ⟨w.heap.size, 4, none⟩ = some (.slice ca lc.length cq)) (go_keep) (first
    | (go_at_call 51; (refine (wxFixed (HS2.out.kp0 (by (repeat (first | exact Kp.refl _ _ | assumption | refine Kp.drewN ?_ _ | refine Kp.drew ?_ | refine Kp.alloc ?_ _ | refine Kp.trans0 ?_ (by assumption))))).hx 0 (by omega) HC1.out _ [lb, lc] (HP.out.parts (W := w2.drew) (T := 22) ((Kp.refl [] w2).drew)) (by show [lb, lc].flatten.length ≤ _; simp; omega) (by simp)).mono ?_); rintro e w3 ⟨rfl, hA⟩; obtain ⟨o3, hs3⟩ := (HS2.out.kp0 (by (repeat (first | exact Kp.refl _ _ | assumption | refine Kp.drewN ?_ _ | refine Kp.drew ?_ | refine Kp.alloc ?_ _ | refine Kp.trans0 ?_ (by assumption))))).after hA; have HS3 := Lib.hid hs3; clear hA hs3; (try clear q0 q1 q2 q3 q4 q5); obtain ⟨q0, q1, q2, q3, q4, q5⟩ := (HP.out.bc HS3.out.hf).c; have ct0 := HS3.out.c 0 (by omega)))
  
  have ct0 := HS3.out.c 2 (by omega)
  go_upto_region 24 with fail
  go_region_held3 (fun W => W.cell? ⟨t, 2, none⟩ = some (vs 2) ∧ W.cell? ⟨w.heap.size, 3, none⟩ = some (.slice ba lb.length bq) ∧ W.cell? ⟨w.heap.size, 4, none⟩ = some (.slice ca lc.length cq)) (go_keep) (first
    | (go_at_call 61; (refine (vxFixed (HS3.out.kp0 (by (repeat (first | exact Kp.refl _ _ | assumption | refine Kp.drewN ?_ _ | refine Kp.drew ?_ | refine Kp.alloc ?_ _ | refine Kp.trans0 ?_ (by assumption))))).hx 2 (by omega) HC2.out _ [lb, lc] (rdd_lit2 w3.drew 22 (.slice ba lb.length bq) (.slice ca lc.length cq) lb lc ((HP.out.iB.at HS3.out.hf).kp0 ((Kp.refl [] w3).drew)) ((HP.out.iC.at HS3.out.hf).kp0 ((Kp.refl [] w3).drew))) (by show [lb, lc].flatten.length ≤ _; simp; omega) (by simp)).mono ?_); rintro e w4 ⟨rfl, hA⟩; obtain ⟨on, hs4⟩ := (HS3.out.kp0 (by (repeat (first | exact Kp.refl _ _ | assumption | refine Kp.drewN ?_ _ | refine Kp.drew ?_ | refine Kp.alloc ?_ _ | refine Kp.trans0 ?_ (by assumption))))).after hA; rw [CM_w0] at hs4; have HXn := Lib.hid hs4.hx; have HFn := Lib.hid hs4.hf; have HZn := Lib.hid hs4.hz; have ct0 := hs4.c 2 (by omega); clear hA hs4; (try clear q0 q1 q2 q3 q4 q5); obtain ⟨q0, q1, q2, q3, q4, q5⟩ := (HP.out.bc HFn.out).c))
  go_wp2_with (first
    | (go_at_call 65; (with_reducible refine (HP.out.kx HFn.out).mono ?_); rintro e wk1 ⟨rfl, kk⟩; have HFk1 := Lib.hid (HFn.out.next0 kk); have HXk1 := Lib.hid (HXn.out.kp0 kk); clear kk; (try clear q0 q1 q2 q3 q4 q5); obtain ⟨q0, q1, q2, q3, q4, q5⟩ := (HP.out.bc HFk1.out).c)
    | (go_at_call 65; (with_reducible refine (HP.out.ky HFk1.out).mono ?_); rintro e wk2 ⟨rfl, kk⟩; have HFk2 := Lib.hid (HFk1.out.next0 kk); have HXk2 := Lib.hid (HXk1.out.kp0 kk); clear kk)
    | (go_at_call 66; (with_reducible refine (HP.out.spx HFk2.out).mono ?_); rintro e wk3 ⟨rfl, kk⟩; have HK3x := Lib.hid kk; clear kk)
    | (go_at_call 66; (with_reducible refine (HP.out.spy HFk2.out HK3x.out).mono ?_); rintro e wk4 ⟨rfl, kk⟩; have HK4x := Lib.hid kk; clear kk)
    | fail)
  go_ret
  exact ⟨rfl, on, vs, n, HP.out.fin HXk2.out HZn.out HK3x.out HK4x.out, by omega⟩
set_option maxRecDepth 100000 in
set_option maxHeartbeats 2000000 in
theorem writes_11_0 (w0 w : World) (o : Nat → Nat) (t : Nat) (M : Md) (vs : Nat → Value) (n : Nat) (h : WX w0 w o t (CM M) vs n) (hn : n ≤ 800) (wh nn : Int) (lb lc : List UInt8) (ba ca : Option Addr) (bq cq : Nat) (S : ByteArray)
    (hB : Inp w o (.slice ba lb.length bq) lb) (hC : Inp w o (.slice ca lc.length cq) lc) (hlb : lb.length ≤ 1048576) (hlc : lc.length ≤ 1048576) (hk : bits .and .i64 wh 1 = 0) (m : Ws) (hm : M.w0 = some m) :
    Calls Try.prog 44 #[.pointer (some ⟨t, 0, none⟩), .agg #[.int .i64 11, .int .i64 wh, .int .i64 nn, .slice ba lb.length bq, .slice ca lc.length cq, .string S]] w (Stp w0 t M n) := by
  have H := Lib.hid h
  have HB := Lib.hid hB
  have HC := Lib.hid hC
  clear h hB hC
  have hbx : Bx (w.alloc (.cells #[.int .i64 11, .int .i64 wh, .int .i64 nn, .slice ba lb.length bq, .slice ca lc.length cq, .string S] 95)) w.heap.size 11 wh nn (.slice ba lb.length bq) (.slice ca lc.length cq) S := heap_alloc_new _ _
  have HBX := Lib.hid hbx
  clear hbx
  have hob : o w.heap.size = 0 := H.out.new (Nat.le_refl _)
  have HOB := Lib.hid hob
  clear hob
  go_enter Try.func44, Try.ntmps44
  go_upto_region 4 with (first
    | (go_at_call 58; (with_reducible refine (room_any (.slice ba lb.length bq) lb _ (HB.out.at (Fr.kp0 ((Kp.refl [] w).alloc _))) (by omega)).mono ?_); rintro e w1 ⟨gx, cx, rfl, hox, kx⟩; have HOX := Lib.hid hox; have HKX := Lib.hid (((Kp.refl [] w).alloc _).trans0 kx); have HKX1 := Lib.hid kx; have HBX1 := Lib.hid (HBX.out.kp kx (by simp)); obtain ⟨q0, q1, q2, q3, q4, q5⟩ := HBX1.out.c; clear hox kx)
    | (go_at_call 58; (with_reducible refine (room_any (.slice ca lc.length cq) lc _ (HC.out.at (Fr.kp0 HKX.out)) (by omega)).mono ?_); rintro e w2 ⟨gy, cy, rfl, hoy, ky⟩; have HOY := Lib.hid hoy; have HKY := Lib.hid (HKX.out.trans0 ky); have HBX2 := Lib.hid (HBX1.out.kp ky (by simp)); clear q0 q1 q2 q3 q4 q5; obtain ⟨q0, q1, q2, q3, q4, q5⟩ := HBX2.out.c; have HKY2 := Lib.hid ky; clear hoy ky)
    | fail)
  have HP : Hid (PB w0 w2 o t M vs n w.heap.size 11 wh nn (.slice ba lb.length bq) (.slice ca lc.length cq) S gx cx gy cy lb lc) := Lib.hid (PB.mk' H.out ((Kp.refl [] w).alloc _) HKX1.out HKY2.out HBX1.out HOB.out (by simp) HOX.out HOY.out HB.out HC.out hlb hlc hn)
  have hcx := HP.out.rx.cap.1
  have hcy := HP.out.ry.cap.1
  clear HBX HBX1 HBX2 HOX HOY HKX HKX1 HKY HKY2 HB HC H HOB
  have hxl : lb.length ≤ cx := by omega
  have hyl : lc.length ≤ cy := by omega
  have HC1 : Hid ((CM M) 0 = CW (some m)) := Lib.hid (by show CW M.w0 = CW (some m); rw [hm])
  have HC2 : Hid ((CM M) 2 = CV (some m)) := Lib.hid (by show CV M.w0 = CV (some m); rw [hm])
  clear hm
  have HS2 : Hid (SX w0 w2 o t w2 o (CM M) vs n) := Lib.hid (SX.start HP.out.hX)
  have ct0 := HS2.out.c 0 (by omega)
  generalize hFF : m.s.2 = FF at *
  have HFF := Lib.hid hFF
  clear hFF
  go_wp2_with (first
    | (go_at_call 35; ((refine (wxOut HS2.out.hx 0 (by omega) HC1.out).mono ?_); rintro e w3 ⟨l, rfl, hl, hll, k⟩; rw [HFF.out]; have HLO := Lib.hid hl; have HLN := Lib.hid hll; have HS3 := Lib.hid (HS2.out.kp0 k); have HK3 := Lib.hid k; obtain ⟨la, lq, rfl⟩ := hl.rd.form; rw [bv_length] at HLO ⊢; generalize hLn : (outL m.s).length = L at HLO HLN ⊢; have HLn := Lib.hid hLn; clear hl hll k hLn ct0; have ct0 := HS3.out.c 2 (by omega)))
    | (go_at_call 63; ((refine (vxOut HS3.out.hx 2 (by omega) HC2.out).mono ?_); rintro e w4 ⟨x, rfl, hx, k⟩; rw [HFF.out]; have HXO := Lib.hid hx; have HS4 := Lib.hid (HS3.out.kp0 k); have HL4 := Lib.hid (HLO.out.kp0 k); have HK4 := Lib.hid (HK3.out.trans0 k); obtain ⟨xa, xq, rfl⟩ := hx.form; clear hx k ct0; (try clear q0 q1 q2 q3 q4 q5); obtain ⟨q0, q1, q2, q3, q4, q5⟩ := (HP.out.bc HS4.out.hf).c))
    | (go_at_call 12; (with_reducible refine (eq_same _ _ (outL m.s) w4 HL4.out.rd HXO.out).mono ?_); rintro e w5 ⟨rfl, rfl⟩)
    | (go_at_call 64; ((refine (noteX HS4.out.hx _ (outL m.s) HL4.out HP.out.hX.kp.size (fun b hb => HS2.out.own0 HL4.out (Nat.le_refl _) b hb) (by have := HLn.out; have := HLN.out; omega) (by have := HP.out.hn; omega)).mono ?_); rintro e wn ⟨rfl, on, vsn, hxn, hvn, hfn, hzn⟩; have hs5 := HS4.out.noted HL4.out (Nat.le_refl _) hxn hfn hzn; have HXn := Lib.hid hs5.hx; have HFn := Lib.hid hs5.hf; have HZn := Lib.hid hs5.hz; clear hxn hvn hfn hzn hs5; (try clear q0 q1 q2 q3 q4 q5); obtain ⟨q0, q1, q2, q3, q4, q5⟩ := (HP.out.bc HFn.out).c))
    | (go_at_call 65; (with_reducible refine (HP.out.kx HFn.out).mono ?_); rintro e wk1 ⟨rfl, kk⟩; have HFk1 := Lib.hid (HFn.out.next0 kk); have HXk1 := Lib.hid (HXn.out.kp0 kk); clear kk; (try clear q0 q1 q2 q3 q4 q5); obtain ⟨q0, q1, q2, q3, q4, q5⟩ := (HP.out.bc HFk1.out).c)
    | (go_at_call 65; (with_reducible refine (HP.out.ky HFk1.out).mono ?_); rintro e wk2 ⟨rfl, kk⟩; have HFk2 := Lib.hid (HFk1.out.next0 kk); have HXk2 := Lib.hid (HXk1.out.kp0 kk); clear kk)
    | (go_at_call 66; (with_reducible refine (HP.out.spx HFk2.out).mono ?_); rintro e wk3 ⟨rfl, kk⟩; have HK3x := Lib.hid kk; clear kk)
    | (go_at_call 66; (with_reducible refine (HP.out.spy HFk2.out HK3x.out).mono ?_); rintro e wk4 ⟨rfl, kk⟩; have HK4x := Lib.hid kk; clear kk)
    | fail)
  go_ret
  exact ⟨rfl, on, vsn, _, HP.out.fin HXk2.out HZn.out HK3x.out HK4x.out, Nat.le_refl _⟩
end Go.Proofs.Ytkceaepbjdfccaa
