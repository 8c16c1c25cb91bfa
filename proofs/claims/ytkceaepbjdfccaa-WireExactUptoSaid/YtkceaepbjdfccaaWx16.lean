/-
table.plain
-/
import Derived.Test.YtkceaepbjdfccaaWx15
namespace Go.Proofs.Ytkceaepbjdfccaa
open Go.RowKit
set_option maxRecDepth 100000 in
set_option maxHeartbeats 2000000 in
theorem plain_1 (w0 w : World) (o : Nat → Nat) (t : Nat) (M : Md) (vs : Nat → Value) (n : Nat) (h : WX w0 w o t (CM M) vs n) (hn : n ≤ 800) (wh nn : Int) (lb lc : List UInt8) (ba ca : Option Addr) (bq cq : Nat) (S : ByteArray)
    (hB : Inp w o (.slice ba lb.length bq) lb) (hC : Inp w o (.slice ca lc.length cq) lc) (hlb : lb.length ≤ 1048576) (hlc : lc.length ≤ 1048576) :
    Calls Try.prog 74 #[.pointer (some ⟨t, 0, none⟩), .agg #[.int .i64 1, .int .i64 wh, .int .i64 nn, .slice ba lb.length bq, .slice ca lc.length cq, .string S]] w (Stp w0 t M n) := by
  have H := Lib.hid h
  have HB := Lib.hid hB
  have HC := Lib.hid hC
  clear h hB hC
  have hbx : Bx (w.alloc (.cells #[.int .i64 1, .int .i64 wh, .int .i64 nn, .slice ba lb.length bq, .slice ca lc.length cq, .string S] 95)) w.heap.size 1 wh nn (.slice ba lb.length bq) (.slice ca lc.length cq) S := heap_alloc_new _ _
  have HBX := Lib.hid hbx
  clear hbx
  have hob : o w.heap.size = 0 := H.out.new (Nat.le_refl _)
  have HOB := Lib.hid hob
  clear hob
  go_enter Try.func74, Try.ntmps74
  go_upto_region 3 with (first
    | (go_at_call 58; (with_reducible refine (room_any (.slice ba lb.length bq) lb _ (HB.out.at (Fr.kp0 ((Kp.refl [] w).alloc _))) (by omega)).mono ?_); rintro e w1 ⟨gx, cx, rfl, hox, kx⟩; have HOX := Lib.hid hox; have HKX := Lib.hid (((Kp.refl [] w).alloc _).trans0 kx); have HKX1 := Lib.hid kx; have HBX1 := Lib.hid (HBX.out.kp kx (by simp)); obtain ⟨q0, q1, q2, q3, q4, q5⟩ := HBX1.out.c; clear hox kx)
    | (go_at_call 58; (with_reducible refine (room_any (.slice ca lc.length cq) lc _ (HC.out.at (Fr.kp0 HKX.out)) (by omega)).mono ?_); rintro e w2 ⟨gy, cy, rfl, hoy, ky⟩; have HOY := Lib.hid hoy; have HKY := Lib.hid (HKX.out.trans0 ky); have HBX2 := Lib.hid (HBX1.out.kp ky (by simp)); clear q0 q1 q2 q3 q4 q5; obtain ⟨q0, q1, q2, q3, q4, q5⟩ := HBX2.out.c; have HKY2 := Lib.hid ky; clear hoy ky)
    | fail)
  have HP : Hid (PB w0 w2 o t M vs n w.heap.size 1 wh nn (.slice ba lb.length bq) (.slice ca lc.length cq) S gx cx gy cy lb lc) := Lib.hid (PB.mk' H.out ((Kp.refl [] w).alloc _) HKX1.out HKY2.out HBX1.out HOB.out (by simp) HOX.out HOY.out HB.out HC.out hlb hlc hn)
  have hcx := HP.out.rx.cap.1
  have hcy := HP.out.ry.cap.1
  clear HBX HBX1 HBX2 HOX HOY HKX HKX1 HKY HKY2 HB HC H HOB
  have hxl : lb.length ≤ cx := by omega
  have hyl : lc.length ≤ cy := by omega
  have hL : (lb ++ lc ++ lb).length ≤ 3145800 := by rw [List.length_append, List.length_append]; omega
  have HLL := Lib.hid hL
  have HFL : Hid ([lb, lc, lb].flatten = lb ++ lc ++ lb) := Lib.hid (by simp)
  clear hL
  go_wp2_with (first
    | (go_at_call 14; (with_reducible refine (join_to _ [lb, lc, lb] (lb ++ lc ++ lb) _ (rdd_lit3 w2 22 (.slice (some ⟨gx, 0, none⟩) lb.length cx) (.slice (some ⟨gy, 0, none⟩) lc.length cy) (.slice (some ⟨gx, 0, none⟩) lb.length cx) lb lc lb HP.out.rx.sub HP.out.ry.sub HP.out.rx.sub) HFL.out (by have := HLL.out; omega) (by simp)).mono ?_); rintro e w3 ⟨g, rfl, hol, hg1, hg2, k3⟩; have HOL := Lib.hid hol; have HK3a := Lib.hid (((Kp.refl [] w2).alloc _).trans0 k3); clear hol hg1 hg2 k3; generalize hLn : (lb ++ lc ++ lb).length = L at HOL HLL ⊢; have HLn := Lib.hid hLn; clear hLn; (try clear q0 q1 q2 q3 q4 q5); obtain ⟨q0, q1, q2, q3, q4, q5⟩ := (HP.out.bc (Fr.kp0 HK3a.out)).c)
    | (go_at_call 78; (refine (rjoin_any _ [lb, lc, lb] _ (rdd_lit3 w3 22 (.slice ba lb.length bq) (.slice ca lc.length cq) (.slice ba lb.length bq) lb lc lb (HP.out.iB.at (Fr.kp0 HK3a.out)) (HP.out.iC.at (Fr.kp0 HK3a.out)) (HP.out.iB.at (Fr.kp0 HK3a.out))) (by show [lb, lc, lb].flatten.length ≤ _; rw [HFL.out]; have := HLL.out; have := HLn.out; omega) (by simp)).mono ?_); rintro e w4 ⟨x, rfl, hom, k4⟩; rw [HFL.out] at hom; have HOM := Lib.hid hom; have HK4a := Lib.hid (HK3a.out.trans0 (((Kp.refl [] w3).alloc _).trans0 k4)); have HOL4 := Lib.hid (HOL.out.kp0 (((Kp.refl [] w3).alloc _).trans0 k4)); clear hom k4)
    | (go_at_call 12; (with_reducible refine (eq_same _ _ (lb ++ lc ++ lb) w4 HOL4.out.rd HOM.out.rd).mono ?_); rintro e w5 ⟨rfl, rfl⟩)
    | (go_at_call 64; (with_reducible refine (noteX (HP.out.hX.kp0 HK4a.out) _ (lb ++ lc ++ lb) HOL4.out (Nat.le_trans HP.out.hX.kp.size (by simp)) (fun b hb => HP.out.hX.new (Nat.le_trans (by simp) (HOL4.out.lt (mem_ob.1 hb)).1)) (by have := HLL.out; have := HLn.out; omega) (by have := HP.out.hn; omega)).mono ?_); rintro e wn ⟨rfl, on, vsn, hxn, hvn, hfn, hzn⟩; have HXn := Lib.hid hxn; have HZn := Lib.hid (show ∀ b, o b = 0 → b < w2.heap.size → on b = 0 from fun b hb hlt => hzn b hb (Nat.lt_of_lt_of_le hlt HK4a.out.size) (fun hm => absurd (HOL4.out.lt (mem_ob.1 hm)).1 (by simp; omega))); have HFn := Lib.hid (show Fr o [] w2 wn from (Fr.kp0 HK4a.out).next hfn (fun _ h _ => h) (fun b hb => Nat.le_trans (by simp) (HOL4.out.lt (mem_ob.1 hb)).1)); clear hxn hvn hfn hzn; (try clear q0 q1 q2 q3 q4 q5); obtain ⟨q0, q1, q2, q3, q4, q5⟩ := (HP.out.bc HFn.out).c)
    | (go_at_call 65; (with_reducible refine (HP.out.kx HFn.out).mono ?_); rintro e wk1 ⟨rfl, kk⟩; have HFk1 := Lib.hid (HFn.out.next0 kk); have HXk1 := Lib.hid (HXn.out.kp0 kk); clear kk; (try clear q0 q1 q2 q3 q4 q5); obtain ⟨q0, q1, q2, q3, q4, q5⟩ := (HP.out.bc HFk1.out).c)
    | (go_at_call 65; (with_reducible refine (HP.out.ky HFk1.out).mono ?_); rintro e wk2 ⟨rfl, kk⟩; have HFk2 := Lib.hid (HFk1.out.next0 kk); have HXk2 := Lib.hid (HXk1.out.kp0 kk); clear kk)
    | (go_at_call 66; (with_reducible refine (HP.out.spx HFk2.out).mono ?_); rintro e wk3 ⟨rfl, kk⟩; have HK3x := Lib.hid kk; clear kk)
    | (go_at_call 66; (with_reducible refine (HP.out.spy HFk2.out HK3x.out).mono ?_); rintro e wk4 ⟨rfl, kk⟩; have HK4x := Lib.hid kk; clear kk)
    | fail)
  go_ret
  exact ⟨rfl, on, vsn, _, HP.out.fin HXk2.out HZn.out HK3x.out HK4x.out, by omega⟩
set_option maxRecDepth 100000 in
set_option maxHeartbeats 2000000 in
theorem plain_2 (w0 w : World) (o : Nat → Nat) (t : Nat) (M : Md) (vs : Nat → Value) (n : Nat) (h : WX w0 w o t (CM M) vs n) (hn : n ≤ 800) (wh nn : Int) (lb lc : List UInt8) (ba ca : Option Addr) (bq cq : Nat) (S : ByteArray)
    (hB : Inp w o (.slice ba lb.length bq) lb) (hC : Inp w o (.slice ca lc.length cq) lc) (hlb : lb.length ≤ 1048576) (hlc : lc.length ≤ 1048576) :
    Calls Try.prog 74 #[.pointer (some ⟨t, 0, none⟩), .agg #[.int .i64 2, .int .i64 wh, .int .i64 nn, .slice ba lb.length bq, .slice ca lc.length cq, .string S]] w (Stp w0 t M n) := by
  have H := Lib.hid h
  have HB := Lib.hid hB
  have HC := Lib.hid hC
  clear h hB hC
  have hbx : Bx (w.alloc (.cells #[.int .i64 2, .int .i64 wh, .int .i64 nn, .slice ba lb.length bq, .slice ca lc.length cq, .string S] 95)) w.heap.size 2 wh nn (.slice ba lb.length bq) (.slice ca lc.length cq) S := heap_alloc_new _ _
  have HBX := Lib.hid hbx
  clear hbx
  have hob : o w.heap.size = 0 := H.out.new (Nat.le_refl _)
  have HOB := Lib.hid hob
  clear hob
  go_enter Try.func74, Try.ntmps74
  go_upto_region 3 with (first
    | (go_at_call 58; (with_reducible refine (room_any (.slice ba lb.length bq) lb _ (HB.out.at (Fr.kp0 ((Kp.refl [] w).alloc _))) (by omega)).mono ?_); rintro e w1 ⟨gx, cx, rfl, hox, kx⟩; have HOX := Lib.hid hox; have HKX := Lib.hid (((Kp.refl [] w).alloc _).trans0 kx); have HKX1 := Lib.hid kx; have HBX1 := Lib.hid (HBX.out.kp kx (by simp)); obtain ⟨q0, q1, q2, q3, q4, q5⟩ := HBX1.out.c; clear hox kx)
    | (go_at_call 58; (with_reducible refine (room_any (.slice ca lc.length cq) lc _ (HC.out.at (Fr.kp0 HKX.out)) (by omega)).mono ?_); rintro e w2 ⟨gy, cy, rfl, hoy, ky⟩; have HOY := Lib.hid hoy; have HKY := Lib.hid (HKX.out.trans0 ky); have HBX2 := Lib.hid (HBX1.out.kp ky (by simp)); clear q0 q1 q2 q3 q4 q5; obtain ⟨q0, q1, q2, q3, q4, q5⟩ := HBX2.out.c; have HKY2 := Lib.hid ky; clear hoy ky)
    | fail)
  have HP : Hid (PB w0 w2 o t M vs n w.heap.size 2 wh nn (.slice ba lb.length bq) (.slice ca lc.length cq) S gx cx gy cy lb lc) := Lib.hid (PB.mk' H.out ((Kp.refl [] w).alloc _) HKX1.out HKY2.out HBX1.out HOB.out (by simp) HOX.out HOY.out HB.out HC.out hlb hlc hn)
  have hcx := HP.out.rx.cap.1
  have hcy := HP.out.ry.cap.1
  clear HBX HBX1 HBX2 HOX HOY HKX HKX1 HKY HKY2 HB HC H HOB
  have hxl : lb.length ≤ cx := by omega
  have hyl : lc.length ≤ cy := by omega
  obtain ⟨d, hd⟩ : ∃ d, decide (lb = lc) = d := ⟨_, rfl⟩
  obtain ⟨b1, hb1⟩ : ∃ d, blankL lb = d := ⟨_, rfl⟩
  have HS1 : Hid (∀ j, Calls Try.prog 15 #[.slice (some ⟨gx, 0, none⟩) lb.length cx, .slice (some ⟨gy, 0, none⟩) lc.length cy] (w2.drewN j) fun e w' => e = .returned (.bool d) ∧ ∃ m, w' = w2.drewN m) := Lib.hid (fun j => by
    have h := same_any _ _ lb lc (w2.drewN j) (HP.out.rx.sub.kp0 ((Kp.refl [] w2).drewN j)) (HP.out.ry.sub.kp0 ((Kp.refl [] w2).drewN j)) (by omega)
    rw [hd] at h; exact h.mono (fun e w' ⟨h1, m, h2⟩ => ⟨h1, j + m, by rw [h2]; simp [World.drewN, Nat.add_assoc]⟩))
  have HS2 : Hid (∀ j, Calls Try.prog 80 #[.slice ba lb.length bq, .slice ca lc.length cq] (w2.drewN j) fun e w' => e = .returned (.bool d) ∧ ∃ m, w' = w2.drewN m) := Lib.hid (fun j => by
    have h := rsame_any _ _ lb lc (w2.drewN j) (HP.out.iB.at (Fr.kp0 ((Kp.refl [] w2).drewN j))) (HP.out.iC.at (Fr.kp0 ((Kp.refl [] w2).drewN j))) (by omega)
    rw [hd] at h; exact h.mono (fun e w' ⟨h1, m, h2⟩ => ⟨h1, j + m, by rw [h2]; simp [World.drewN, Nat.add_assoc]⟩))
  have HS3 : Hid (∀ j, Calls Try.prog 16 #[.slice (some ⟨gx, 0, none⟩) lb.length cx] (w2.drewN j) fun e w' => e = .returned (.bool b1) ∧ ∃ m, w' = w2.drewN m) := Lib.hid (fun j => by
    have h := blank_any _ lb (w2.drewN j) (HP.out.rx.sub.kp0 ((Kp.refl [] w2).drewN j)) (by omega)
    rw [hb1] at h; exact h.mono (fun e w' ⟨h1, h2⟩ => ⟨h1, j, h2.symm⟩))
  have HS4 : Hid (∀ j, Calls Try.prog 81 #[.slice ba lb.length bq] (w2.drewN j) fun e w' => e = .returned (.bool b1) ∧ ∃ m, w' = w2.drewN m) := Lib.hid (fun j => by
    have h := rblank_any _ lb (w2.drewN j) (HP.out.iB.at (Fr.kp0 ((Kp.refl [] w2).drewN j))) (by omega)
    rw [hb1] at h; exact h.mono (fun e w' ⟨h1, h2⟩ => ⟨h1, j, h2.symm⟩))
  clear hd hb1
  go_upto_region 12 with fail
  go_quiet ((first | (go_at_call 15; exact (HS1.out _).mono (fun _ _ h => h)) | (go_at_call 80; exact (HS2.out _).mono (fun _ _ h => h)) | (go_at_call 16; exact (HS3.out _).mono (fun _ _ h => h)) | (go_at_call 81; exact (HS4.out _).mono (fun _ _ h => h))))
  generalize hwn : w2.drewN nq = wn at *
  have HFn : Hid (Fr o [] w2 wn) := Lib.hid (by rw [← hwn]; exact Fr.kp0 ((Kp.refl [] w2).drewN nq))
  have HXn : Hid (WX w0 wn o t (CM M) vs n) := Lib.hid (by rw [← hwn]; exact HP.out.hX.kp0 ((Kp.refl [] w2).drewN nq))
  clear hwn
  clear q0 q1 q2 q3 q4 q5
  obtain ⟨q0, q1, q2, q3, q4, q5⟩ := (HP.out.bc HFn.out).c
  go_wp2_with (first
    | (go_at_call 65; (with_reducible refine (HP.out.kx HFn.out).mono ?_); rintro e wk1 ⟨rfl, kk⟩; have HFk1 := Lib.hid (HFn.out.next0 kk); have HXk1 := Lib.hid (HXn.out.kp0 kk); clear kk; (try clear q0 q1 q2 q3 q4 q5); obtain ⟨q0, q1, q2, q3, q4, q5⟩ := (HP.out.bc HFk1.out).c)
    | (go_at_call 65; (with_reducible refine (HP.out.ky HFk1.out).mono ?_); rintro e wk2 ⟨rfl, kk⟩; have HFk2 := Lib.hid (HFk1.out.next0 kk); have HXk2 := Lib.hid (HXk1.out.kp0 kk); clear kk)
    | (go_at_call 66; (with_reducible refine (HP.out.spx HFk2.out).mono ?_); rintro e wk3 ⟨rfl, kk⟩; have HK3x := Lib.hid kk; clear kk)
    | (go_at_call 66; (with_reducible refine (HP.out.spy HFk2.out HK3x.out).mono ?_); rintro e wk4 ⟨rfl, kk⟩; have HK4x := Lib.hid kk; clear kk)
    | fail)
  go_ret
  exact ⟨rfl, o, vs, n, HP.out.fin HXk2.out (fun _ h _ => h) HK3x.out HK4x.out, by omega⟩
set_option maxRecDepth 100000 in
set_option maxHeartbeats 2000000 in
theorem plain_3 (w0 w : World) (o : Nat → Nat) (t : Nat) (M : Md) (vs : Nat → Value) (n : Nat) (h : WX w0 w o t (CM M) vs n) (hn : n ≤ 800) (wh nn : Int) (lb lc : List UInt8) (ba ca : Option Addr) (bq cq : Nat) (S : ByteArray)
    (hB : Inp w o (.slice ba lb.length bq) lb) (hC : Inp w o (.slice ca lc.length cq) lc) (hlb : lb.length ≤ 1048576) (hlc : lc.length ≤ 1048576)  :
    Calls Try.prog 74 #[.pointer (some ⟨t, 0, none⟩), .agg #[.int .i64 3, .int .i64 wh, .int .i64 nn, .slice ba lb.length bq, .slice ca lc.length cq, .string S]] w (Stp w0 t M n) := by
  have H := Lib.hid h
  have HB := Lib.hid hB
  have HC := Lib.hid hC
  clear h hB hC
  have hbx : Bx (w.alloc (.cells #[.int .i64 3, .int .i64 wh, .int .i64 nn, .slice ba lb.length bq, .slice ca lc.length cq, .string S] 95)) w.heap.size 3 wh nn (.slice ba lb.length bq) (.slice ca lc.length cq) S := heap_alloc_new _ _
  have HBX := Lib.hid hbx
  clear hbx
  have hob : o w.heap.size = 0 := H.out.new (Nat.le_refl _)
  have HOB := Lib.hid hob
  clear hob
  go_enter Try.func74, Try.ntmps74
  go_upto_region 3 with (first
    | (go_at_call 58; (with_reducible refine (room_any (.slice ba lb.length bq) lb _ (HB.out.at (Fr.kp0 ((Kp.refl [] w).alloc _))) (by omega)).mono ?_); rintro e w1 ⟨gx, cx, rfl, hox, kx⟩; have HOX := Lib.hid hox; have HKX := Lib.hid (((Kp.refl [] w).alloc _).trans0 kx); have HKX1 := Lib.hid kx; have HBX1 := Lib.hid (HBX.out.kp kx (by simp)); obtain ⟨q0, q1, q2, q3, q4, q5⟩ := HBX1.out.c; clear hox kx)
    | (go_at_call 58; (with_reducible refine (room_any (.slice ca lc.length cq) lc _ (HC.out.at (Fr.kp0 HKX.out)) (by omega)).mono ?_); rintro e w2 ⟨gy, cy, rfl, hoy, ky⟩; have HOY := Lib.hid hoy; have HKY := Lib.hid (HKX.out.trans0 ky); have HBX2 := Lib.hid (HBX1.out.kp ky (by simp)); clear q0 q1 q2 q3 q4 q5; obtain ⟨q0, q1, q2, q3, q4, q5⟩ := HBX2.out.c; have HKY2 := Lib.hid ky; clear hoy ky)
    | fail)
  have HP : Hid (PB w0 w2 o t M vs n w.heap.size 3 wh nn (.slice ba lb.length bq) (.slice ca lc.length cq) S gx cx gy cy lb lc) := Lib.hid (PB.mk' H.out ((Kp.refl [] w).alloc _) HKX1.out HKY2.out HBX1.out HOB.out (by simp) HOX.out HOY.out HB.out HC.out hlb hlc hn)
  have hcx := HP.out.rx.cap.1
  have hcy := HP.out.ry.cap.1
  clear HBX HBX1 HBX2 HOX HOY HKX HKX1 HKY HKY2 HB HC H HOB
  have hxl : lb.length ≤ cx := by omega
  have hyl : lc.length ≤ cy := by omega
  obtain ⟨curx, hcur, hcsz, hcx2⟩ := HP.out.rx.raw
  have HCUR := Lib.hid hcur
  clear hcur
  go_wp2_with (first
    | (go_at_call 17; (with_reducible refine (wipe_any gx lb.length cx curx 5 w2 HCUR.out (by omega) (by omega)).mono ?_); rintro e w3 ⟨rfl, hgx, kx⟩; have HRX := Lib.hid (HP.out.rx.wiped HCUR.out hgx); have HKX := Lib.hid kx; have HBX3 := Lib.hid (HP.out.bx.kp kx (by rw [List.mem_singleton]; exact HP.out.nb)); clear hgx kx q0 q1 q2 q3 q4 q5; obtain ⟨q0, q1, q2, q3, q4, q5⟩ := HBX3.out.c)
    | (at_make; (refine wpl_make el_u8 rfl rfl (.tmp 118) (.tmp 118) rfl _ _ _ _ lb.length rfl rfl rfl rfl (by omega) (by omega) ?_); intro w4 ho4 hg4 _; have HM4 := Lib.hid ho4; have HK4 := Lib.hid (Kp.of_grown0 (L := []) hg4); clear ho4 hg4)
    | (at_builtin; (refine wpl_append2 el_u8 rfl (.tmp 119) (.tmp 120) rfl (B := w3.heap.size) rfl rfl (HM4.out.kp0 ((Kp.refl [] w4).alloc _)) (rd_lit3 w4 5 (.int .u8 209) (.int .u8 210) (.int .u8 211)) (by simp [Value.oneCell']) (by simp; omega) (by simp; omega) (by have := HK4.out.size; simp; omega) ?_); intro v5 w5 ho5 hg5 hb5; have HO5 := Lib.hid (show Own w5 w3.heap.size 5 v5 (bv (List.replicate lb.length 0 ++ marks)) from (by rw [bv_rep, bv_marks]; exact ho5)); have HK5 := Lib.hid ((HK4.out.alloc _).grown hg5 (fun g hg => .inr (HM4.out.lt hg).1)); clear ho5 hg5 hb5)
    | (go_at_call 12; (with_reducible refine (eq_same _ _ (List.replicate lb.length 0 ++ marks) w5 (HRX.out.kp0 HK5.out) HO5.out.rd).mono ?_); rintro e w6 ⟨rfl, rfl⟩)
    | fail)
  go_ret
  exact ⟨rfl, o, vs, n, (HP.out.hX.tmp HKX.out (fun b hb => by rw [List.mem_singleton] at hb; subst hb; exact ⟨HP.out.rx.og, HP.out.lx⟩)).kp0 HK5.out, by omega⟩
set_option maxRecDepth 100000 in
set_option maxHeartbeats 2000000 in
theorem plain_4 (w0 w : World) (o : Nat → Nat) (t : Nat) (M : Md) (vs : Nat → Value) (n : Nat) (h : WX w0 w o t (CM M) vs n) (hn : n ≤ 800) (wh nn : Int) (lb lc : List UInt8) (ba ca : Option Addr) (bq cq : Nat) (S : ByteArray)
    (hB : Inp w o (.slice ba lb.length bq) lb) (hC : Inp w o (.slice ca lc.length cq) lc) (hlb : lb.length ≤ 1048576) (hlc : lc.length ≤ 1048576) (hS : S.size ≤ 1048576) :
    Calls Try.prog 74 #[.pointer (some ⟨t, 0, none⟩), .agg #[.int .i64 4, .int .i64 wh, .int .i64 nn, .slice ba lb.length bq, .slice ca lc.length cq, .string S]] w (Stp w0 t M n) := by
  have H := Lib.hid h
  have HB := Lib.hid hB
  have HC := Lib.hid hC
  clear h hB hC
  have hbx : Bx (w.alloc (.cells #[.int .i64 4, .int .i64 wh, .int .i64 nn, .slice ba lb.length bq, .slice ca lc.length cq, .string S] 95)) w.heap.size 4 wh nn (.slice ba lb.length bq) (.slice ca lc.length cq) S := heap_alloc_new _ _
  have HBX := Lib.hid hbx
  clear hbx
  have hob : o w.heap.size = 0 := H.out.new (Nat.le_refl _)
  have HOB := Lib.hid hob
  clear hob
  go_enter Try.func74, Try.ntmps74
  go_upto_region 3 with (first
    | (go_at_call 58; (with_reducible refine (room_any (.slice ba lb.length bq) lb _ (HB.out.at (Fr.kp0 ((Kp.refl [] w).alloc _))) (by omega)).mono ?_); rintro e w1 ⟨gx, cx, rfl, hox, kx⟩; have HOX := Lib.hid hox; have HKX := Lib.hid (((Kp.refl [] w).alloc _).trans0 kx); have HKX1 := Lib.hid kx; have HBX1 := Lib.hid (HBX.out.kp kx (by simp)); obtain ⟨q0, q1, q2, q3, q4, q5⟩ := HBX1.out.c; clear hox kx)
    | (go_at_call 58; (with_reducible refine (room_any (.slice ca lc.length cq) lc _ (HC.out.at (Fr.kp0 HKX.out)) (by omega)).mono ?_); rintro e w2 ⟨gy, cy, rfl, hoy, ky⟩; have HOY := Lib.hid hoy; have HKY := Lib.hid (HKX.out.trans0 ky); have HBX2 := Lib.hid (HBX1.out.kp ky (by simp)); clear q0 q1 q2 q3 q4 q5; obtain ⟨q0, q1, q2, q3, q4, q5⟩ := HBX2.out.c; have HKY2 := Lib.hid ky; clear hoy ky)
    | fail)
  have HP : Hid (PB w0 w2 o t M vs n w.heap.size 4 wh nn (.slice ba lb.length bq) (.slice ca lc.length cq) S gx cx gy cy lb lc) := Lib.hid (PB.mk' H.out ((Kp.refl [] w).alloc _) HKX1.out HKY2.out HBX1.out HOB.out (by simp) HOX.out HOY.out HB.out HC.out hlb hlc hn)
  have hcx := HP.out.rx.cap.1
  have hcy := HP.out.ry.cap.1
  clear HBX HBX1 HBX2 HOX HOY HKX HKX1 HKY HKY2 HB HC H HOB
  have hxl : lb.length ≤ cx := by omega
  have hyl : lc.length ≤ cy := by omega
  have hUL := unhexL_len S.data.toList
  have hSL : S.data.toList.length = S.size := Array.length_toList
  have HUL : Hid (((unhexL S.data.toList).getD []).length ≤ 1048576) := Lib.hid (by omega)
  clear hUL hSL
  go_wp2_with (first
    | (go_at_call 10; ((refine (hex_any (.slice (some ⟨gx, 0, none⟩) lb.length cx) lb w2 (by omega) HP.out.rx.sub).mono ?_); rintro e w3 ⟨rfl, k⟩; have HF3 := Lib.hid (Fr.kp0 (o := o) (E := []) k); have HK3 := Lib.hid k; clear k; (try clear q0 q1 q2 q3 q4 q5); obtain ⟨q0, q1, q2, q3, q4, q5⟩ := (HP.out.bc HF3.out).c))
    | (go_at_call 11; ((refine (unhex_any S w3 (by omega)).mono ?_); rintro e w4 ⟨v, rfl, ho, k⟩; obtain ⟨ua, uc, rfl⟩ := ho.rd.form; rw [bv_length] at ho ⊢; generalize hLn : ((unhexL S.data.toList).getD []).length = L at ho ⊢; have HLn := Lib.hid hLn; have HO4 := Lib.hid ho; have HK4 := Lib.hid (HK3.out.trans0 k); have HF4 := Lib.hid (HF3.out.next0 k); clear k ho hLn; (try clear q0 q1 q2 q3 q4 q5); obtain ⟨q0, q1, q2, q3, q4, q5⟩ := (HP.out.bc HF4.out).c))
    | (go_at_call 82; ((refine (runhex_any S w4 (by omega)).mono ?_); rintro e w5 ⟨v, rfl, ho, k⟩; obtain ⟨va, vc, rfl⟩ := ho.rd.form; have HO5 := Lib.hid ho; have HL5 := Lib.hid (HO4.out.kp0 k); have HK5 := Lib.hid (HK4.out.trans0 k); have HF5 := Lib.hid (HF4.out.next0 k); clear k ho; (try clear q0 q1 q2 q3 q4 q5); obtain ⟨q0, q1, q2, q3, q4, q5⟩ := (HP.out.bc HF5.out).c))
    | (go_at_call 83; ((refine (rhex_any (.slice ba lb.length bq) lb w5 (by omega) (HP.out.iB.at HF5.out)).mono ?_); rintro e w6 ⟨rfl, k⟩; have HO6 := Lib.hid (HO5.out.kp0 k); have HL6 := Lib.hid (HL5.out.kp0 k); have HK6 := Lib.hid (HK5.out.trans0 k); have HF6 := Lib.hid (HF5.out.next0 k); clear k; (try clear q0 q1 q2 q3 q4 q5); obtain ⟨q0, q1, q2, q3, q4, q5⟩ := (HP.out.bc HF6.out).c))
    | (go_at_call 12; (with_reducible refine (eq_same _ _ ((unhexL S.data.toList).getD []) w6 HL6.out.rd HO6.out.rd).mono ?_); rintro e w7 ⟨rfl, rfl⟩)
    | (go_at_call 64; (with_reducible refine (noteX (HP.out.hX.kp0 HK6.out) _ ((unhexL S.data.toList).getD []) HL6.out (Nat.le_trans HP.out.hX.kp.size HK3.out.size) (fun b hb => HP.out.hX.new (Nat.le_trans HK3.out.size (HL6.out.lt (mem_ob.1 hb)).1)) (by have := HUL.out; omega) (by have := HP.out.hn; omega)).mono ?_); rintro e wn ⟨rfl, on, vsn, hxn, hvn, hfn, hzn⟩; have HXn := Lib.hid hxn; have HZn := Lib.hid (show ∀ b, o b = 0 → b < w2.heap.size → on b = 0 from fun b hb hlt => hzn b hb (Nat.lt_of_lt_of_le hlt HK6.out.size) (fun hm => absurd (HL6.out.lt (mem_ob.1 hm)).1 (by have := HK3.out.size; omega))); have HFn := Lib.hid (show Fr o [] w2 wn from (Fr.kp0 HK6.out).next hfn (fun _ h _ => h) (fun b hb => Nat.le_trans HK3.out.size (HL6.out.lt (mem_ob.1 hb)).1)); clear hxn hvn hfn hzn; (try clear q0 q1 q2 q3 q4 q5); obtain ⟨q0, q1, q2, q3, q4, q5⟩ := (HP.out.bc HFn.out).c)
    | (go_at_call 65; (with_reducible refine (HP.out.kx HFn.out).mono ?_); rintro e wk1 ⟨rfl, kk⟩; have HFk1 := Lib.hid (HFn.out.next0 kk); have HXk1 := Lib.hid (HXn.out.kp0 kk); clear kk; (try clear q0 q1 q2 q3 q4 q5); obtain ⟨q0, q1, q2, q3, q4, q5⟩ := (HP.out.bc HFk1.out).c)
    | (go_at_call 65; (with_reducible refine (HP.out.ky HFk1.out).mono ?_); rintro e wk2 ⟨rfl, kk⟩; have HFk2 := Lib.hid (HFk1.out.next0 kk); have HXk2 := Lib.hid (HXk1.out.kp0 kk); clear kk)
    | (go_at_call 66; (with_reducible refine (HP.out.spx HFk2.out).mono ?_); rintro e wk3 ⟨rfl, kk⟩; have HK3x := Lib.hid kk; clear kk)
    | (go_at_call 66; (with_reducible refine (HP.out.spy HFk2.out HK3x.out).mono ?_); rintro e wk4 ⟨rfl, kk⟩; have HK4x := Lib.hid kk; clear kk)
    | fail)
  go_ret
  exact ⟨rfl, on, vsn, _, HP.out.fin HXk2.out HZn.out HK3x.out HK4x.out, by omega⟩
end Go.Proofs.Ytkceaepbjdfccaa
