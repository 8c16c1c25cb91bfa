/-
table.reads
-/
import Derived.Test.YtkceaepbjdfccaaWx22
namespace Go.Proofs.Ytkceaepbjdfccaa
open Go.RowKit
set_option maxRecDepth 100000 in
set_option maxHeartbeats 2000000 in
theorem reads_16_0 (w0 w : World) (o : Nat → Nat) (t : Nat) (M : Md) (vs : Nat → Value) (n : Nat) (h : WX w0 w o t (CM M) vs n) (hn : n ≤ 800) (wh nn : Int) (lb : List UInt8) (ba : Option Addr) (bq : Nat) (cv : Value) (S : ByteArray) (hk : bits .and .i64 wh 1 = 0) (m : Qs) (hm : M.r0 = some m) :
    Calls Try.prog 45 #[.pointer (some ⟨t, 0, none⟩), .agg #[.int .i64 16, .int .i64 wh, .int .i64 nn, .slice ba lb.length bq, cv, .string S]] w (Stp w0 t { M with r0 := some ⟨m.b, (fieldL m.b m.s 0 nn).2⟩ } n) := by
  have H := Lib.hid h
  clear h
  have hbx : Bx (w.alloc (.cells #[.int .i64 16, .int .i64 wh, .int .i64 nn, .slice ba lb.length bq, cv, .string S] 95)) w.heap.size 16 wh nn (.slice ba lb.length bq) cv S := heap_alloc_new _ _
  have HBX := Lib.hid hbx
  clear hbx
  have HOB := Lib.hid (H.out.new (Nat.le_refl w.heap.size))
  have HX1 : Hid (WX w0 (w.alloc (.cells #[.int .i64 16, .int .i64 wh, .int .i64 nn, .slice ba lb.length bq, cv, .string S] 95)) o t (CM M) vs n) := Lib.hid (H.out.kp0 ((Kp.refl [] w).alloc _))
  have HK1 : Hid (Kp [] w (w.alloc (.cells #[.int .i64 16, .int .i64 wh, .int .i64 nn, .slice ba lb.length bq, cv, .string S] 95))) := Lib.hid ((Kp.refl [] w).alloc _)
  have HN := Lib.hid hn
  clear hn
  go_enter Try.func45, Try.ntmps45
  go_upto_region 1 with fail
  generalize w.alloc (.cells #[.int .i64 16, .int .i64 wh, .int .i64 nn, .slice ba lb.length bq, cv, .string S] 95) = w1 at *
  obtain ⟨q0, q1, q2, q3, q4, q5⟩ := HBX.out.c
  generalize hob : w.heap.size = bx at *
  clear hob
  have HS1 : Hid (SX w0 w1 o t w1 o (CM M) vs n) := Lib.hid (SX.start HX1.out)
  have HC1 : Hid ((CM M) 4 = CR (some m)) := Lib.hid (by show CR M.r0 = CR (some m); rw [hm])
  have HC2 : Hid ((upd (CM M) 4 (CR (some ⟨m.b, (fieldL m.b m.s 0 nn).2⟩))) 6 = CQ (some m)) := Lib.hid (by rw [upd_ne _ _ (by decide)]; show CQ M.r0 = CQ (some m); rw [hm])
  clear hm
  have ct0 := HS1.out.c 4 (by omega)
  have ct1 := HS1.out.c 6 (by omega)
  go_upto_region 20 with fail
  go_region_held3 (fun W => W.cell? ⟨t, 4, none⟩ = some (vs 4) ∧ W.cell? ⟨bx, 2, none⟩ = some (.int .i64 nn)) (go_keep) (first
    | (go_at_call 36; ((refine (rxFixed (HS1.out.kp0 (by (repeat (first | exact Kp.refl _ _ | assumption | refine Kp.drewN ?_ _ | refine Kp.drew ?_ | refine Kp.alloc ?_ _ | refine Kp.trans0 ?_ (by assumption))))).hx 4 (by omega) HC1.out nn).mono ?_); rintro e w3 ⟨l, rfl, hl, hll, hx, hf⟩; have HS3 := Lib.hid ((HS1.out.kp0 (by (repeat (first | exact Kp.refl _ _ | assumption | refine Kp.drewN ?_ _ | refine Kp.drew ?_ | refine Kp.alloc ?_ _ | refine Kp.trans0 ?_ (by assumption))))).same hx hf); obtain ⟨la, lq, rfl⟩ := hl.rd.form; rw [bv_length] at hl ⊢; generalize hLn : (fieldL m.b m.s 0 nn).1.length = L at hl hll ⊢; have HLn := Lib.hid hLn; have HL3 := Lib.hid hl; have HLL := Lib.hid hll; clear hx hf hl hll hLn; have ct0 := HS3.out.c 4 (by omega); have ct1 := HS3.out.c 6 (by omega); (try clear q0 q1 q2 q3 q4 q5); obtain ⟨q0, q1, q2, q3, q4, q5⟩ := (HBX.out.fr HS3.out.hf HOB.out).c)))
  go_upto_region 21 with fail
  go_region_held3 (fun W => W.cell? ⟨t, 6, none⟩ = some (vs 6) ∧ W.cell? ⟨bx, 2, none⟩ = some (.int .i64 nn)) (go_keep) (first
    | (go_at_call 69; ((refine (qxFixed (HS3.out.kp0 (by (repeat (first | exact Kp.refl _ _ | assumption | refine Kp.drewN ?_ _ | refine Kp.drew ?_ | refine Kp.alloc ?_ _ | refine Kp.trans0 ?_ (by assumption))))).hx 6 (by omega) HC2.out nn).mono ?_); rintro e w4 ⟨x, rfl, hr, hx, hf⟩; have hs4 := ((HS3.out.kp0 (by (repeat (first | exact Kp.refl _ _ | assumption | refine Kp.drewN ?_ _ | refine Kp.drew ?_ | refine Kp.alloc ?_ _ | refine Kp.trans0 ?_ (by assumption))))).same hx hf); have HL4 := Lib.hid (hf.own (HL3.out.kp0 (by (repeat (first | exact Kp.refl _ _ | assumption | refine Kp.drewN ?_ _ | refine Kp.drew ?_ | refine Kp.alloc ?_ _ | refine Kp.trans0 ?_ (by assumption))))) (fun b hb => ⟨HX1.out.new (Nat.le_trans (by simp) (HL3.out.lt (mem_ob.1 hb)).1), by simp⟩)); have HR4 := Lib.hid hr; obtain ⟨xa, xq, rfl⟩ := hr.form; have ct1 := hs4.c 6 (by omega); rw [CM_r0] at hs4; have HS4 := Lib.hid hs4; clear hx hf hs4 hr; (try clear q0 q1 q2 q3 q4 q5); obtain ⟨q0, q1, q2, q3, q4, q5⟩ := (HBX.out.fr HS4.out.hf HOB.out).c)))
  go_wp2_with (first
    | (go_at_call 12; (with_reducible refine (eq_same _ _ (fieldL m.b m.s 0 nn).1 w4 HL4.out.rd HR4.out).mono ?_); rintro e w5 ⟨rfl, rfl⟩)
    | (go_at_call 64; ((refine (noteX HS4.out.hx _ (fieldL m.b m.s 0 nn).1 HL4.out HX1.out.kp.size (fun b hb => HX1.out.new (Nat.le_trans (by simp) (HL4.out.lt (mem_ob.1 hb)).1)) (by have := HLn.out; have := HLL.out; omega) (by have := HN.out; omega)).mono ?_); rintro e wn ⟨rfl, on, vsn, hxn, hvn, hfn, hzn⟩; have HXn := Lib.hid hxn; clear hxn hvn hfn hzn))
    | fail)
  go_ret
  exact ⟨rfl, on, vsn, _, HXn.out, Nat.le_refl _⟩
set_option maxRecDepth 100000 in
set_option maxHeartbeats 2000000 in
theorem reads_17_0 (w0 w : World) (o : Nat → Nat) (t : Nat) (M : Md) (vs : Nat → Value) (n : Nat) (h : WX w0 w o t (CM M) vs n) (hn : n ≤ 800) (wh nn : Int) (lb : List UInt8) (ba : Option Addr) (bq : Nat) (cv : Value) (S : ByteArray) (hk : bits .and .i64 wh 1 = 0) (m : Qs) (hm : M.r0 = some m) :
    Calls Try.prog 45 #[.pointer (some ⟨t, 0, none⟩), .agg #[.int .i64 17, .int .i64 wh, .int .i64 nn, .slice ba lb.length bq, cv, .string S]] w (Stp w0 t { M with r0 := some ⟨m.b, (runL m.b m.s nn).2⟩ } n) := by
  have H := Lib.hid h
  clear h
  have hbx : Bx (w.alloc (.cells #[.int .i64 17, .int .i64 wh, .int .i64 nn, .slice ba lb.length bq, cv, .string S] 95)) w.heap.size 17 wh nn (.slice ba lb.length bq) cv S := heap_alloc_new _ _
  have HBX := Lib.hid hbx
  clear hbx
  have HOB := Lib.hid (H.out.new (Nat.le_refl w.heap.size))
  have HX1 : Hid (WX w0 (w.alloc (.cells #[.int .i64 17, .int .i64 wh, .int .i64 nn, .slice ba lb.length bq, cv, .string S] 95)) o t (CM M) vs n) := Lib.hid (H.out.kp0 ((Kp.refl [] w).alloc _))
  have HK1 : Hid (Kp [] w (w.alloc (.cells #[.int .i64 17, .int .i64 wh, .int .i64 nn, .slice ba lb.length bq, cv, .string S] 95))) := Lib.hid ((Kp.refl [] w).alloc _)
  have HN := Lib.hid hn
  clear hn
  go_enter Try.func45, Try.ntmps45
  go_upto_region 1 with fail
  generalize w.alloc (.cells #[.int .i64 17, .int .i64 wh, .int .i64 nn, .slice ba lb.length bq, cv, .string S] 95) = w1 at *
  obtain ⟨q0, q1, q2, q3, q4, q5⟩ := HBX.out.c
  generalize hob : w.heap.size = bx at *
  clear hob
  have HS1 : Hid (SX w0 w1 o t w1 o (CM M) vs n) := Lib.hid (SX.start HX1.out)
  have HC1 : Hid ((CM M) 4 = CR (some m)) := Lib.hid (by show CR M.r0 = CR (some m); rw [hm])
  have HC2 : Hid ((upd (CM M) 4 (CR (some ⟨m.b, (runL m.b m.s nn).2⟩))) 6 = CQ (some m)) := Lib.hid (by rw [upd_ne _ _ (by decide)]; show CQ M.r0 = CQ (some m); rw [hm])
  clear hm
  have ct0 := HS1.out.c 4 (by omega)
  have ct1 := HS1.out.c 6 (by omega)
  go_upto_region 22 with fail
  go_region_held3 (fun W => W.cell? ⟨t, 4, none⟩ = some (vs 4) ∧ W.cell? ⟨bx, 2, none⟩ = some (.int .i64 nn)) (go_keep) (first
    | (go_at_call 37; ((refine (rxRun (HS1.out.kp0 (by (repeat (first | exact Kp.refl _ _ | assumption | refine Kp.drewN ?_ _ | refine Kp.drew ?_ | refine Kp.alloc ?_ _ | refine Kp.trans0 ?_ (by assumption))))).hx 4 (by omega) HC1.out nn).mono ?_); rintro e w3 ⟨l, rfl, hl, hll, hx, hf⟩; have HS3 := Lib.hid ((HS1.out.kp0 (by (repeat (first | exact Kp.refl _ _ | assumption | refine Kp.drewN ?_ _ | refine Kp.drew ?_ | refine Kp.alloc ?_ _ | refine Kp.trans0 ?_ (by assumption))))).same hx hf); obtain ⟨la, lq, rfl⟩ := hl.rd.form; rw [bv_length] at hl ⊢; generalize hLn : (runL m.b m.s nn).1.length = L at hl hll ⊢; have HLn := Lib.hid hLn; have HL3 := Lib.hid hl; have HLL := Lib.hid hll; clear hx hf hl hll hLn; have ct0 := HS3.out.c 4 (by omega); have ct1 := HS3.out.c 6 (by omega); (try clear q0 q1 q2 q3 q4 q5); obtain ⟨q0, q1, q2, q3, q4, q5⟩ := (HBX.out.fr HS3.out.hf HOB.out).c)))
  go_upto_region 23 with fail
  go_region_held3 (fun W => W.cell? ⟨t, 6, none⟩ = some (vs 6) ∧ W.cell? ⟨bx, 2, none⟩ = some (.int .i64 nn)) (go_keep) (first
    | (go_at_call 70; ((refine (qxRun (HS3.out.kp0 (by (repeat (first | exact Kp.refl _ _ | assumption | refine Kp.drewN ?_ _ | refine Kp.drew ?_ | refine Kp.alloc ?_ _ | refine Kp.trans0 ?_ (by assumption))))).hx 6 (by omega) HC2.out nn).mono ?_); rintro e w4 ⟨x, rfl, hr, hx, hf⟩; have hs4 := ((HS3.out.kp0 (by (repeat (first | exact Kp.refl _ _ | assumption | refine Kp.drewN ?_ _ | refine Kp.drew ?_ | refine Kp.alloc ?_ _ | refine Kp.trans0 ?_ (by assumption))))).same hx hf); have HL4 := Lib.hid (hf.own (HL3.out.kp0 (by (repeat (first | exact Kp.refl _ _ | assumption | refine Kp.drewN ?_ _ | refine Kp.drew ?_ | refine Kp.alloc ?_ _ | refine Kp.trans0 ?_ (by assumption))))) (fun b hb => ⟨HX1.out.new (Nat.le_trans (by simp) (HL3.out.lt (mem_ob.1 hb)).1), by simp⟩)); have HR4 := Lib.hid hr; obtain ⟨xa, xq, rfl⟩ := hr.form; have ct1 := hs4.c 6 (by omega); rw [CM_r0] at hs4; have HS4 := Lib.hid hs4; clear hx hf hs4 hr; (try clear q0 q1 q2 q3 q4 q5); obtain ⟨q0, q1, q2, q3, q4, q5⟩ := (HBX.out.fr HS4.out.hf HOB.out).c)))
  go_wp2_with (first
    | (go_at_call 12; (with_reducible refine (eq_same _ _ (runL m.b m.s nn).1 w4 HL4.out.rd HR4.out).mono ?_); rintro e w5 ⟨rfl, rfl⟩)
    | (go_at_call 64; ((refine (noteX HS4.out.hx _ (runL m.b m.s nn).1 HL4.out HX1.out.kp.size (fun b hb => HX1.out.new (Nat.le_trans (by simp) (HL4.out.lt (mem_ob.1 hb)).1)) (by have := HLn.out; have := HLL.out; omega) (by have := HN.out; omega)).mono ?_); rintro e wn ⟨rfl, on, vsn, hxn, hvn, hfn, hzn⟩; have HXn := Lib.hid hxn; clear hxn hvn hfn hzn))
    | fail)
  go_ret
  exact ⟨rfl, on, vsn, _, HXn.out, Nat.le_refl _⟩
set_option maxRecDepth 100000 in
set_option maxHeartbeats 2000000 in
theorem reads_19_0 (w0 w : World) (o : Nat → Nat) (t : Nat) (M : Md) (vs : Nat → Value) (n : Nat) (h : WX w0 w o t (CM M) vs n) (hn : n ≤ 800) (wh nn : Int) (lb : List UInt8) (ba : Option Addr) (bq : Nat) (cv : Value) (S : ByteArray) (hk : bits .and .i64 wh 1 = 0) (m : Qs) (hm : M.r0 = some m) :
    Calls Try.prog 45 #[.pointer (some ⟨t, 0, none⟩), .agg #[.int .i64 19, .int .i64 wh, .int .i64 nn, .slice ba lb.length bq, cv, .string S]] w (Stp w0 t M n) := by
  have H := Lib.hid h
  clear h
  have hbx : Bx (w.alloc (.cells #[.int .i64 19, .int .i64 wh, .int .i64 nn, .slice ba lb.length bq, cv, .string S] 95)) w.heap.size 19 wh nn (.slice ba lb.length bq) cv S := heap_alloc_new _ _
  have HBX := Lib.hid hbx
  clear hbx
  have HOB := Lib.hid (H.out.new (Nat.le_refl w.heap.size))
  have HX1 : Hid (WX w0 (w.alloc (.cells #[.int .i64 19, .int .i64 wh, .int .i64 nn, .slice ba lb.length bq, cv, .string S] 95)) o t (CM M) vs n) := Lib.hid (H.out.kp0 ((Kp.refl [] w).alloc _))
  have HK1 : Hid (Kp [] w (w.alloc (.cells #[.int .i64 19, .int .i64 wh, .int .i64 nn, .slice ba lb.length bq, cv, .string S] 95))) := Lib.hid ((Kp.refl [] w).alloc _)
  have HN := Lib.hid hn
  clear hn
  go_enter Try.func45, Try.ntmps45
  go_upto_region 1 with fail
  generalize w.alloc (.cells #[.int .i64 19, .int .i64 wh, .int .i64 nn, .slice ba lb.length bq, cv, .string S] 95) = w1 at *
  obtain ⟨q0, q1, q2, q3, q4, q5⟩ := HBX.out.c
  generalize hob : w.heap.size = bx at *
  clear hob
  have HS1 : Hid (SX w0 w1 o t w1 o (CM M) vs n) := Lib.hid (SX.start HX1.out)
  have HC1 : Hid ((CM M) 4 = CR (some m)) := Lib.hid (by show CR M.r0 = CR (some m); rw [hm])
  have HC2 : Hid ((CM M) 6 = CQ (some m)) := Lib.hid (by show CQ M.r0 = CQ (some m); rw [hm])
  clear hm
  have ct0 := HS1.out.c 4 (by omega)
  generalize hF : m.s.f = FF
  generalize hA : (if m.s.f = 0 then 0 else (m.s.at_ : Int)) = AA
  generalize hLe : ((m.b.length : Int) - m.s.at_) = LE
  have HFF := Lib.hid hF
  have HAA := Lib.hid hA
  have HLE := Lib.hid hLe
  clear hF hA hLe
  go_upto_region 33 with (first
    | (go_at_call 28; ((refine (rxFault HS1.out.hx 4 (by omega) HC1.out).mono ?_); rintro e w3 ⟨rfl, j, hj⟩; rw [HAA.out, HFF.out]; have HS3 := Lib.hid (HS1.out.kp0 (W' := w3) (by rw [hj]; exact (Kp.refl [] w1).drewN j)); clear hj ct0; have ct1 := HS3.out.c 6 (by omega)))
    | (go_at_call 72; ((refine (qxFault HS3.out.hx 6 (by omega) HC2.out).mono ?_); rintro e w4 ⟨rfl, j, hj⟩; rw [HAA.out, HFF.out]; have HS4 := Lib.hid (HS3.out.kp0 (W' := w4) (by rw [hj]; exact (Kp.refl [] w3).drewN j)); clear hj ct1; have ct0 := HS4.out.c 4 (by omega); have ct1 := HS4.out.c 6 (by omega)))
    | fail)
  have HL1 : Hid (∀ j, Calls Try.prog 26 #[vs 4] (w4.drewN j) fun e w' => e = .returned (.int .i64 LE) ∧ ∃ m, w' = w4.drewN m) := Lib.hid (fun j => by
    have h := rxLeft (HS4.out.kp0 ((Kp.refl [] w4).drewN j)).hx 4 (by omega) HC1.out
    rw [HLE.out] at h; exact h.mono (fun e w' ⟨h1, m, h2⟩ => ⟨h1, j + m, by rw [h2]; simp [World.drewN, Nat.add_assoc]⟩))
  have HL2 : Hid (∀ j, Calls Try.prog 73 #[vs 6] (w4.drewN j) fun e w' => e = .returned (.int .i64 LE) ∧ ∃ m, w' = w4.drewN m) := Lib.hid (fun j => by
    have h := qxLeft (HS4.out.kp0 ((Kp.refl [] w4).drewN j)).hx 6 (by omega) HC2.out
    rw [HLE.out] at h; exact h.mono (fun e w' ⟨h1, m, h2⟩ => ⟨h1, j + m, by rw [h2]; simp [World.drewN, Nat.add_assoc]⟩))
  go_quiet ((first | (go_at_call 26; exact (HL1.out _).mono (fun _ _ h => h)) | (go_at_call 73; exact (HL2.out _).mono (fun _ _ h => h))))
  go_wp2_with fail
  go_ret
  exact ⟨by simp, o, vs, n, (HS4.out.kp0 ((Kp.refl [] w4).drewN nq)).hx, by omega⟩
set_option maxRecDepth 100000 in
set_option maxHeartbeats 2000000 in
theorem reads_12_0 (w0 w : World) (o : Nat → Nat) (t : Nat) (M : Md) (vs : Nat → Value) (n : Nat) (h : WX w0 w o t (CM M) vs n) (hn : n ≤ 800) (wh nn : Int) (lb : List UInt8) (ba : Option Addr) (bq : Nat) (cv : Value) (S : ByteArray) (hk : bits .and .i64 wh 1 = 0) (hB : Inp w o (.slice ba lb.length bq) lb) (hlb : lb.length ≤ 1048576) :
    Calls Try.prog 45 #[.pointer (some ⟨t, 0, none⟩), .agg #[.int .i64 12, .int .i64 wh, .int .i64 nn, .slice ba lb.length bq, cv, .string S]] w (Stp w0 t { M with r0 := some ⟨lb, ⟨0, 0, 0⟩⟩ } n) := by
  have HB := Lib.hid hB
  clear hB
  have H := Lib.hid h
  clear h
  have hbx : Bx (w.alloc (.cells #[.int .i64 12, .int .i64 wh, .int .i64 nn, .slice ba lb.length bq, cv, .string S] 95)) w.heap.size 12 wh nn (.slice ba lb.length bq) cv S := heap_alloc_new _ _
  have HBX := Lib.hid hbx
  clear hbx
  have HOB := Lib.hid (H.out.new (Nat.le_refl w.heap.size))
  have HX1 : Hid (WX w0 (w.alloc (.cells #[.int .i64 12, .int .i64 wh, .int .i64 nn, .slice ba lb.length bq, cv, .string S] 95)) o t (CM M) vs n) := Lib.hid (H.out.kp0 ((Kp.refl [] w).alloc _))
  have HK1 : Hid (Kp [] w (w.alloc (.cells #[.int .i64 12, .int .i64 wh, .int .i64 nn, .slice ba lb.length bq, cv, .string S] 95))) := Lib.hid ((Kp.refl [] w).alloc _)
  have HN := Lib.hid hn
  clear hn
  have HB1 := Lib.hid (HB.out.kp0 HK1.out)
  go_enter Try.func45, Try.ntmps45
  go_upto_region 1 with fail
  generalize w.alloc (.cells #[.int .i64 12, .int .i64 wh, .int .i64 nn, .slice ba lb.length bq, cv, .string S] 95) = w1 at *
  obtain ⟨q0, q1, q2, q3, q4, q5⟩ := HBX.out.c
  generalize hob : w.heap.size = bx at *
  clear hob
  have HS1 : Hid (SX w0 w1 o t w1 o (CM M) vs n) := Lib.hid (SX.start HX1.out)
  go_upto_region 5 with (first
    | (go_at_call 58; (refine (room_any (.slice ba lb.length bq) lb w1 HB1.out.1 (by omega)).mono ?_); rintro e w2 ⟨gx, cx, rfl, hox, kx⟩; have HOX := Lib.hid hox; have HK2 := Lib.hid kx; have HBX2 := Lib.hid (HBX.out.kp kx (by simp)); have HX2 := Lib.hid (HX1.out.kp0 kx); have HB2 := Lib.hid (HB1.out.kp0 kx); clear kx hox; (try clear q0 q1 q2 q3 q4 q5); obtain ⟨q0, q1, q2, q3, q4, q5⟩ := HBX2.out.c)
    | fail)
  have HRX : Hid (Rm w2 o gx cx lb) := Lib.hid ⟨HOX.out.base (Nat.zero_le _), HX1.out.new (HOX.out.lt (b := gx) rfl).1⟩
  have HGX : Hid (w0.heap.size ≤ gx) := Lib.hid (Nat.le_trans HX1.out.kp.size (HOX.out.lt (b := gx) rfl).1)
  have hcx := HRX.out.cap.1
  have hxl : lb.length ≤ cx := by omega
  have HS2 : Hid (SX w0 w2 o t w2 o (CM M) vs n) := Lib.hid (SX.start HX2.out)
  clear hcx
  go_region_held3 (fun W => W.cell? ⟨bx, 3, none⟩ = some (.slice ba lb.length bq)) (go_keep) (first
    | (go_at_call 23; ((refine (newReader_any (.slice (some ⟨gx, 0, none⟩) lb.length cx) lb _ (HRX.out.sub.kp0 (by (repeat (first | exact Kp.refl _ _ | assumption | refine Kp.drewN ?_ _ | refine Kp.drew ?_ | refine Kp.alloc ?_ _ | refine Kp.trans0 ?_ (by assumption))))) (by omega)).mono ?_); rintro e w3 ⟨p, rv, rfl, hr, k⟩; have HS3 := Lib.hid ((HS2.out.kp0 (by (repeat (first | exact Kp.refl _ _ | assumption | refine Kp.drewN ?_ _ | refine Kp.drew ?_ | refine Kp.alloc ?_ _ | refine Kp.trans0 ?_ (by assumption))))).kp0 k); have hs4 := HS3.out.newR HX2.out.kp.size 4 (by omega) hr (by simp) (fun b hb => HX2.out.new (Nat.le_trans (by simp) hb)) k.size (by omega); have HS4 := Lib.hid hs4; have f0 := HS3.out.f 4; have ct0 := HS3.out.c 4 (by omega); clear hr k hs4; (try clear q0 q1 q2 q3 q4 q5); obtain ⟨q0, q1, q2, q3, q4, q5⟩ := (HBX2.out.fr HS4.out.hf HOB.out).c; obtain ⟨p0, p1, p2, p3, p4, p5⟩ := (HBX2.out.fr HS3.out.hf HOB.out).c)))
  go_upto_region 6 with fail
  go_region_held3 (fun W => W.cell? ⟨bx, 3, none⟩ = some (.slice ba lb.length bq)) (go_keep) (first
    | (go_at_call 67; ((refine (qnew_any (.slice ba lb.length bq) lb _ ((HB2.out.at HS4.out.hf).kp0 (by (repeat (first | exact Kp.refl _ _ | assumption | refine Kp.drewN ?_ _ | refine Kp.drew ?_ | refine Kp.alloc ?_ _ | refine Kp.trans0 ?_ (by assumption))))) (by omega)).mono ?_); rintro e w5 ⟨p2, rv2, rfl, hr, k⟩; have HS5 := Lib.hid ((HS4.out.kp0 (by (repeat (first | exact Kp.refl _ _ | assumption | refine Kp.drewN ?_ _ | refine Kp.drew ?_ | refine Kp.alloc ?_ _ | refine Kp.trans0 ?_ (by assumption))))).kp0 k); have hs6 := HS5.out.newQ HX2.out.kp.size 6 (by omega) hr (by have := HS4.out.hf.size; simpa using this) (fun b hb => HS4.out.hx.new (Nat.le_trans (by simp) hb)) k.size (by omega); have f1 := HS5.out.f 6; have ct1 := HS5.out.c 6 (by omega); have ct2 := hs6.c 4 (by omega); rw [CM_r0] at hs6; have HS6 := Lib.hid hs6; clear hr k hs6; (try clear q0 q1 q2 q3 q4 q5 p0 p1 p2 p3 p4 p5); obtain ⟨q0, q1, q2, q3, q4, q5⟩ := (HBX2.out.fr HS6.out.hf HOB.out).c; obtain ⟨p0, p1, p2, p3, p4, p5⟩ := (HBX2.out.fr HS5.out.hf HOB.out).c)))
  go_wp2_with (first
    | (go_at_call 65; (with_reducible refine (kept_same (HRX.out.fr HS6.out.hf).own.rd (HB2.out.at HS6.out.hf) (by omega)).mono ?_); rintro e w7 ⟨rfl, kk⟩; have HS7 := Lib.hid (HS6.out.kp0 kk); clear kk)
    | (go_at_call 66; (with_reducible refine (spoil_own (HRX.out.fr HS7.out.hf).own (by omega)).mono ?_); rintro e w8 ⟨rfl, kk⟩; have HX8 := Lib.hid (HS7.out.hx.tmp kk (fun b hb => by rw [List.mem_singleton] at hb; subst hb; exact ⟨HS7.out.hz _ HRX.out.og HRX.out.cap.2.2, HGX.out⟩)); clear kk; have ct3 := HX8.out.cell 4 (by omega); rw [upd_ne _ _ (by decide), upd_same] at ct3)
    | fail)
  go_ret
  exact ⟨rfl, _, _, n, HX8.out, by omega⟩
end Go.Proofs.Ytkceaepbjdfccaa
