/-
table.plain, table.writes, table.reads, of any kind; table.plays
-/
import Derived.Test.YtkceaepbjdfccaaWx16
import Derived.Test.YtkceaepbjdfccaaWx18
import Derived.Test.YtkceaepbjdfccaaWx19
import Derived.Test.YtkceaepbjdfccaaWx20
import Derived.Test.YtkceaepbjdfccaaWx21
import Derived.Test.YtkceaepbjdfccaaWx23
import Derived.Test.YtkceaepbjdfccaaWx24
import Derived.Test.YtkceaepbjdfccaaWx25
import Derived.Test.YtkceaepbjdfccaaWx26
namespace Go.Proofs.Ytkceaepbjdfccaa
open Go.RowKit
/-- both writers and both readers are there -/
def Full (M : Md) : Prop := (∃ m, M.w0 = some m) ∧ (∃ m, M.w1 = some m) ∧ (∃ m, M.r0 = some m) ∧ (∃ m, M.r1 = some m)
/-- behind a step, whatever the writers and readers then hold -/
def StpF (w0 : World) (t : Nat) (n : Nat) (e : Ending) (w' : World) : Prop :=
  e = .returned (.bool true) ∧ ∃ M' o' vs' n', Full M' ∧ WX w0 w' o' t (CM M') vs' n' ∧ n' ≤ n + 2
theorem Stp.f {w0 : World} {t n : Nat} {M : Md} {e : Ending} {w' : World} (h : Stp w0 t M n e w') (hF : Full M) : StpF w0 t n e w' := by
  obtain ⟨h1, o', vs', n', h2, h3⟩ := h
  exact ⟨h1, M, o', vs', n', hF, h2, h3⟩
theorem plain_any (w0 w : World) (o : Nat → Nat) (t : Nat) (M : Md) (vs : Nat → Value) (n : Nat) (h : WX w0 w o t (CM M) vs n) (hn : n ≤ 800) (kind wh nn : Int) (lb lc : List UInt8) (ba ca : Option Addr) (bq cq : Nat) (S : ByteArray)
    (hB : Inp w o (.slice ba lb.length bq) lb) (hC : Inp w o (.slice ca lc.length cq) lc) (hlb : lb.length ≤ 1048576) (hlc : lc.length ≤ 1048576) (hS : S.size ≤ 1048576) (hF : Full M) (hk0 : 1 ≤ kind) (hk1 : kind ≤ 4) :
    Calls Try.prog 74 #[.pointer (some ⟨t, 0, none⟩), .agg #[.int .i64 kind, .int .i64 wh, .int .i64 nn, .slice ba lb.length bq, .slice ca lc.length cq, .string S]] w (StpF w0 t n) := by
  have hk : kind = 1 ∨ kind = 2 ∨ kind = 3 ∨ kind = 4 := by omega
  rcases hk with rfl | rfl | rfl | rfl
  · exact (plain_1 w0 w o t M vs n h hn wh nn lb lc ba ca bq cq S hB hC hlb hlc).mono fun e w' hh => hh.f hF
  · exact (plain_2 w0 w o t M vs n h hn wh nn lb lc ba ca bq cq S hB hC hlb hlc).mono fun e w' hh => hh.f hF
  · exact (plain_3 w0 w o t M vs n h hn wh nn lb lc ba ca bq cq S hB hC hlb hlc).mono fun e w' hh => hh.f hF
  · exact (plain_4 w0 w o t M vs n h hn wh nn lb lc ba ca bq cq S hB hC hlb hlc hS).mono fun e w' hh => hh.f hF
theorem writes_any (w0 w : World) (o : Nat → Nat) (t : Nat) (M : Md) (vs : Nat → Value) (n : Nat) (h : WX w0 w o t (CM M) vs n) (hn : n ≤ 800) (kind wh nn : Int) (lb lc : List UInt8) (ba ca : Option Addr) (bq cq : Nat) (S : ByteArray)
    (hB : Inp w o (.slice ba lb.length bq) lb) (hC : Inp w o (.slice ca lc.length cq) lc) (hlb : lb.length ≤ 1048576) (hlc : lc.length ≤ 1048576) (_ : S.size ≤ 1048576) (hF : Full M) (hk0 : 5 ≤ kind) (hk1 : kind ≤ 11) :
    Calls Try.prog 44 #[.pointer (some ⟨t, 0, none⟩), .agg #[.int .i64 kind, .int .i64 wh, .int .i64 nn, .slice ba lb.length bq, .slice ca lc.length cq, .string S]] w (StpF w0 t n) := by
  obtain ⟨⟨m0, f0⟩, ⟨m1, f1⟩, ⟨m2, f2⟩, ⟨m3, f3⟩⟩ := id hF
  have hw : bits .and .i64 wh 1 = 0 ∨ bits .and .i64 wh 1 = 1 := by rw [and1]; omega
  have hk : kind = 5 ∨ kind = 6 ∨ kind = 7 ∨ kind = 8 ∨ kind = 9 ∨ kind = 10 ∨ kind = 11 := by omega
  rcases hw with hw | hw
  · rcases hk with rfl | rfl | rfl | rfl | rfl | rfl | rfl
    · by_cases h5 : 0 ≤ nn ∧ nn ≤ 1048576
      · exact (writes_5_0y w0 w o t M vs n h hn wh nn lb lc ba ca bq cq S hB hC hlb hlc hw h5.1 h5.2).mono fun e w' hh => hh.f ⟨⟨_, rfl⟩, ⟨_, f1⟩, ⟨_, f2⟩, ⟨_, f3⟩⟩
      · exact (writes_5_0n w0 w o t M vs n h hn wh nn lb lc ba ca bq cq S hB hC hlb hlc hw (by omega)).mono fun e w' hh => hh.f hF
    · exact (writes_6_0 w0 w o t M vs n h hn wh nn lb lc ba ca bq cq S hB hC hlb hlc hw m0 f0).mono fun e w' hh => hh.f ⟨⟨_, rfl⟩, ⟨_, f1⟩, ⟨_, f2⟩, ⟨_, f3⟩⟩
    · exact (writes_7_0 w0 w o t M vs n h hn wh nn lb lc ba ca bq cq S hB hC hlb hlc hw m0 f0).mono fun e w' hh => hh.f ⟨⟨_, rfl⟩, ⟨_, f1⟩, ⟨_, f2⟩, ⟨_, f3⟩⟩
    · exact (writes_8_0 w0 w o t M vs n h hn wh nn lb lc ba ca bq cq S hB hC hlb hlc hw m0 f0).mono fun e w' hh => hh.f ⟨⟨_, rfl⟩, ⟨_, f1⟩, ⟨_, f2⟩, ⟨_, f3⟩⟩
    · exact (writes_9_0 w0 w o t M vs n h hn wh nn lb lc ba ca bq cq S hB hC hlb hlc hw m0 f0).mono fun e w' hh => hh.f ⟨⟨_, rfl⟩, ⟨_, f1⟩, ⟨_, f2⟩, ⟨_, f3⟩⟩
    · exact (writes_10_0 w0 w o t M vs n h hn wh nn lb lc ba ca bq cq S hB hC hlb hlc hw m0 f0).mono fun e w' hh => hh.f ⟨⟨_, rfl⟩, ⟨_, f1⟩, ⟨_, f2⟩, ⟨_, f3⟩⟩
    · exact (writes_11_0 w0 w o t M vs n h hn wh nn lb lc ba ca bq cq S hB hC hlb hlc hw m0 f0).mono fun e w' hh => hh.f hF
  · rcases hk with rfl | rfl | rfl | rfl | rfl | rfl | rfl
    · by_cases h5 : 0 ≤ nn ∧ nn ≤ 1048576
      · exact (writes_5_1y w0 w o t M vs n h hn wh nn lb lc ba ca bq cq S hB hC hlb hlc hw h5.1 h5.2).mono fun e w' hh => hh.f ⟨⟨_, f0⟩, ⟨_, rfl⟩, ⟨_, f2⟩, ⟨_, f3⟩⟩
      · exact (writes_5_1n w0 w o t M vs n h hn wh nn lb lc ba ca bq cq S hB hC hlb hlc hw (by omega)).mono fun e w' hh => hh.f hF
    · exact (writes_6_1 w0 w o t M vs n h hn wh nn lb lc ba ca bq cq S hB hC hlb hlc hw m1 f1).mono fun e w' hh => hh.f ⟨⟨_, f0⟩, ⟨_, rfl⟩, ⟨_, f2⟩, ⟨_, f3⟩⟩
    · exact (writes_7_1 w0 w o t M vs n h hn wh nn lb lc ba ca bq cq S hB hC hlb hlc hw m1 f1).mono fun e w' hh => hh.f ⟨⟨_, f0⟩, ⟨_, rfl⟩, ⟨_, f2⟩, ⟨_, f3⟩⟩
    · exact (writes_8_1 w0 w o t M vs n h hn wh nn lb lc ba ca bq cq S hB hC hlb hlc hw m1 f1).mono fun e w' hh => hh.f ⟨⟨_, f0⟩, ⟨_, rfl⟩, ⟨_, f2⟩, ⟨_, f3⟩⟩
    · exact (writes_9_1 w0 w o t M vs n h hn wh nn lb lc ba ca bq cq S hB hC hlb hlc hw m1 f1).mono fun e w' hh => hh.f ⟨⟨_, f0⟩, ⟨_, rfl⟩, ⟨_, f2⟩, ⟨_, f3⟩⟩
    · exact (writes_10_1 w0 w o t M vs n h hn wh nn lb lc ba ca bq cq S hB hC hlb hlc hw m1 f1).mono fun e w' hh => hh.f ⟨⟨_, f0⟩, ⟨_, rfl⟩, ⟨_, f2⟩, ⟨_, f3⟩⟩
    · exact (writes_11_1 w0 w o t M vs n h hn wh nn lb lc ba ca bq cq S hB hC hlb hlc hw m1 f1).mono fun e w' hh => hh.f hF
theorem reads_any (w0 w : World) (o : Nat → Nat) (t : Nat) (M : Md) (vs : Nat → Value) (n : Nat) (h : WX w0 w o t (CM M) vs n) (hn : n ≤ 800) (kind wh nn : Int) (lb lc : List UInt8) (ba ca : Option Addr) (bq cq : Nat) (S : ByteArray)
    (hB : Inp w o (.slice ba lb.length bq) lb) (_ : Inp w o (.slice ca lc.length cq) lc) (hlb : lb.length ≤ 1048576) (_ : lc.length ≤ 1048576) (_ : S.size ≤ 1048576) (hF : Full M) (hk0 : 12 ≤ kind) (hk1 : kind ≤ 19) :
    Calls Try.prog 45 #[.pointer (some ⟨t, 0, none⟩), .agg #[.int .i64 kind, .int .i64 wh, .int .i64 nn, .slice ba lb.length bq, .slice ca lc.length cq, .string S]] w (StpF w0 t n) := by
  obtain ⟨⟨m0, f0⟩, ⟨m1, f1⟩, ⟨m2, f2⟩, ⟨m3, f3⟩⟩ := id hF
  have hw : bits .and .i64 wh 1 = 0 ∨ bits .and .i64 wh 1 = 1 := by rw [and1]; omega
  have hk : kind = 12 ∨ kind = 13 ∨ kind = 14 ∨ kind = 15 ∨ kind = 16 ∨ kind = 17 ∨ kind = 18 ∨ kind = 19 := by omega
  rcases hw with hw | hw
  · rcases hk with rfl | rfl | rfl | rfl | rfl | rfl | rfl | rfl
    · exact (reads_12_0 w0 w o t M vs n h hn wh nn lb ba bq (.slice ca lc.length cq) S hw hB hlb).mono fun e w' hh => hh.f ⟨⟨_, f0⟩, ⟨_, f1⟩, ⟨_, rfl⟩, ⟨_, f3⟩⟩
    · exact (reads_13_0 w0 w o t M vs n h hn wh nn lb ba bq (.slice ca lc.length cq) S hw m2 f2).mono fun e w' hh => hh.f ⟨⟨_, f0⟩, ⟨_, f1⟩, ⟨_, rfl⟩, ⟨_, f3⟩⟩
    · exact (reads_14_0 w0 w o t M vs n h hn wh nn lb ba bq (.slice ca lc.length cq) S hw m2 f2).mono fun e w' hh => hh.f ⟨⟨_, f0⟩, ⟨_, f1⟩, ⟨_, rfl⟩, ⟨_, f3⟩⟩
    · exact (reads_15_0 w0 w o t M vs n h hn wh nn lb ba bq (.slice ca lc.length cq) S hw m2 f2).mono fun e w' hh => hh.f ⟨⟨_, f0⟩, ⟨_, f1⟩, ⟨_, rfl⟩, ⟨_, f3⟩⟩
    · exact (reads_16_0 w0 w o t M vs n h hn wh nn lb ba bq (.slice ca lc.length cq) S hw m2 f2).mono fun e w' hh => hh.f ⟨⟨_, f0⟩, ⟨_, f1⟩, ⟨_, rfl⟩, ⟨_, f3⟩⟩
    · exact (reads_17_0 w0 w o t M vs n h hn wh nn lb ba bq (.slice ca lc.length cq) S hw m2 f2).mono fun e w' hh => hh.f ⟨⟨_, f0⟩, ⟨_, f1⟩, ⟨_, rfl⟩, ⟨_, f3⟩⟩
    · exact (reads_18_0 w0 w o t M vs n h hn wh nn lb ba bq (.slice ca lc.length cq) S hw m2 f2).mono fun e w' hh => hh.f ⟨⟨_, f0⟩, ⟨_, f1⟩, ⟨_, rfl⟩, ⟨_, f3⟩⟩
    · exact (reads_19_0 w0 w o t M vs n h hn wh nn lb ba bq (.slice ca lc.length cq) S hw m2 f2).mono fun e w' hh => hh.f hF
  · rcases hk with rfl | rfl | rfl | rfl | rfl | rfl | rfl | rfl
    · exact (reads_12_1 w0 w o t M vs n h hn wh nn lb ba bq (.slice ca lc.length cq) S hw hB hlb).mono fun e w' hh => hh.f ⟨⟨_, f0⟩, ⟨_, f1⟩, ⟨_, f2⟩, ⟨_, rfl⟩⟩
    · exact (reads_13_1 w0 w o t M vs n h hn wh nn lb ba bq (.slice ca lc.length cq) S hw m3 f3).mono fun e w' hh => hh.f ⟨⟨_, f0⟩, ⟨_, f1⟩, ⟨_, f2⟩, ⟨_, rfl⟩⟩
    · exact (reads_14_1 w0 w o t M vs n h hn wh nn lb ba bq (.slice ca lc.length cq) S hw m3 f3).mono fun e w' hh => hh.f ⟨⟨_, f0⟩, ⟨_, f1⟩, ⟨_, f2⟩, ⟨_, rfl⟩⟩
    · exact (reads_15_1 w0 w o t M vs n h hn wh nn lb ba bq (.slice ca lc.length cq) S hw m3 f3).mono fun e w' hh => hh.f ⟨⟨_, f0⟩, ⟨_, f1⟩, ⟨_, f2⟩, ⟨_, rfl⟩⟩
    · exact (reads_16_1 w0 w o t M vs n h hn wh nn lb ba bq (.slice ca lc.length cq) S hw m3 f3).mono fun e w' hh => hh.f ⟨⟨_, f0⟩, ⟨_, f1⟩, ⟨_, f2⟩, ⟨_, rfl⟩⟩
    · exact (reads_17_1 w0 w o t M vs n h hn wh nn lb ba bq (.slice ca lc.length cq) S hw m3 f3).mono fun e w' hh => hh.f ⟨⟨_, f0⟩, ⟨_, f1⟩, ⟨_, f2⟩, ⟨_, rfl⟩⟩
    · exact (reads_18_1 w0 w o t M vs n h hn wh nn lb ba bq (.slice ca lc.length cq) S hw m3 f3).mono fun e w' hh => hh.f ⟨⟨_, f0⟩, ⟨_, f1⟩, ⟨_, f2⟩, ⟨_, rfl⟩⟩
    · exact (reads_19_1 w0 w o t M vs n h hn wh nn lb ba bq (.slice ca lc.length cq) S hw m3 f3).mono fun e w' hh => hh.f hF
set_option maxRecDepth 100000 in
set_option maxHeartbeats 2000000 in
theorem plays_any (w0 w : World) (o : Nat → Nat) (t : Nat) (M : Md) (vs : Nat → Value) (n : Nat) (h : WX w0 w o t (CM M) vs n) (hn : n ≤ 800) (kind wh nn : Int) (lb lc : List UInt8) (ba ca : Option Addr) (bq cq : Nat) (S : ByteArray)
    (hB : Inp w o (.slice ba lb.length bq) lb) (hC : Inp w o (.slice ca lc.length cq) lc) (hlb : lb.length ≤ 1048576) (hlc : lc.length ≤ 1048576) (hS : S.size ≤ 1048576) (hF : Full M) :
    Calls Try.prog 46 #[.pointer (some ⟨t, 0, none⟩), .agg #[.int .i64 kind, .int .i64 wh, .int .i64 nn, .slice ba lb.length bq, .slice ca lc.length cq, .string S]] w (StpF w0 t n) := by
  obtain ⟨w1, hw1⟩ : ∃ w1, w.alloc (.cells #[.int .i64 kind, .int .i64 wh, .int .i64 nn, .slice ba lb.length bq, .slice ca lc.length cq, .string S] 95) = w1 := ⟨_, rfl⟩
  have k1 : Kp [] w w1 := by rw [← hw1]; exact (Kp.refl [] w).alloc _
  have hbx : Bx w1 w.heap.size kind wh nn (.slice ba lb.length bq) (.slice ca lc.length cq) S := by rw [← hw1]; exact heap_alloc_new _ _
  have HBX := Lib.hid hbx
  have HP := Lib.hid (fun a b => plain_any w0 w1 o t M vs n (h.kp0 k1) hn kind wh nn lb lc ba ca bq cq S (hB.kp0 k1) (hC.kp0 k1) hlb hlc hS hF a b)
  have HW := Lib.hid (fun a b => writes_any w0 w1 o t M vs n (h.kp0 k1) hn kind wh nn lb lc ba ca bq cq S (hB.kp0 k1) (hC.kp0 k1) hlb hlc hS hF a b)
  have HR := Lib.hid (fun a b => reads_any w0 w1 o t M vs n (h.kp0 k1) hn kind wh nn lb lc ba ca bq cq S (hB.kp0 k1) (hC.kp0 k1) hlb hlc hS hF a b)
  have HE : Hid (StpF w0 t n (.returned (.bool true)) w1) := Lib.hid ⟨rfl, M, o, vs, n, hF, h.kp0 k1, by omega⟩
  have HRG : Hid (w1.rangeAt w.heap.size 0 [.int .i64 kind, .int .i64 wh, .int .i64 nn, .slice ba lb.length bq, .slice ca lc.length cq, .string S]) := Lib.hid (by
    intro j v hv
    rw [cell_of_row w1 _ _ _ _ _ hbx, Nat.zero_add, ← Array.getElem?_toList]
    exact hv)
  clear h hn hB hC hlb hlc hS hF k1 hbx
  have HW1 := Lib.hid hw1
  clear hw1
  by_cases h0 : kind < 1
  · have hc : ¬ 1 ≤ kind := by omega
    have hd : ¬ 5 ≤ kind := by omega
    have he : ¬ 12 ≤ kind := by omega
    go_enter Try.func46, Try.ntmps46
    go_upto_region 1 with fail
    rw [HW1.out]
    obtain ⟨q0, q1, q2, q3, q4, q5⟩ := HBX.out.c
    go_wp2_with fail
    go_ret
    exact HE.out
  by_cases h1 : kind ≤ 4
  · have hc : 1 ≤ kind := by omega
    go_enter Try.func46, Try.ntmps46
    go_upto_region 1 with fail
    rw [HW1.out]
    obtain ⟨q0, q1, q2, q3, q4, q5⟩ := HBX.out.c
    go_wp2_with (first
      | ((with_reducible refine wpList_load_mid ?s0a 95 (.tmp 3) ?s0b w.heap.size 0 ?s0c [.int .i64 kind, .int .i64 wh, .int .i64 nn, .slice ba lb.length bq, .slice ca lc.length cq, .string S] ?s0d ?s0e ?s0f ?s0g ?s0h ?s0i); (case s0a => rfl); (case s0b => rfl); (case s0c => rfl); (case s0e => exact HRG.out); (case s0f => exact Try.underlying95); (case s0g => rfl); (case s0h => kernel_rfl))
      | (go_at_call 74; ((refine (HP.out (by omega) (by omega)).mono ?_); rintro e w2 ⟨rfl, hh⟩))
      | fail)
    go_ret
    exact ⟨rfl, hh⟩
  by_cases h2 : kind ≤ 11
  · have hc : 1 ≤ kind := by omega
    have hd : 5 ≤ kind := by omega
    go_enter Try.func46, Try.ntmps46
    go_upto_region 1 with fail
    rw [HW1.out]
    obtain ⟨q0, q1, q2, q3, q4, q5⟩ := HBX.out.c
    go_wp2_with (first
      | ((with_reducible refine wpList_load_mid ?s1a 95 (.tmp 3) ?s1b w.heap.size 0 ?s1c [.int .i64 kind, .int .i64 wh, .int .i64 nn, .slice ba lb.length bq, .slice ca lc.length cq, .string S] ?s1d ?s1e ?s1f ?s1g ?s1h ?s1i); (case s1a => rfl); (case s1b => rfl); (case s1c => rfl); (case s1e => exact HRG.out); (case s1f => exact Try.underlying95); (case s1g => rfl); (case s1h => kernel_rfl))
      | (go_at_call 44; ((refine (HW.out (by omega) (by omega)).mono ?_); rintro e w2 ⟨rfl, hh⟩))
      | fail)
    go_ret
    exact ⟨rfl, hh⟩
  by_cases h3 : kind ≤ 19
  · have hc : 1 ≤ kind := by omega
    have hd : 5 ≤ kind := by omega
    have he : 12 ≤ kind := by omega
    go_enter Try.func46, Try.ntmps46
    go_upto_region 1 with fail
    rw [HW1.out]
    obtain ⟨q0, q1, q2, q3, q4, q5⟩ := HBX.out.c
    go_wp2_with (first
      | ((with_reducible refine wpList_load_mid ?s2a 95 (.tmp 3) ?s2b w.heap.size 0 ?s2c [.int .i64 kind, .int .i64 wh, .int .i64 nn, .slice ba lb.length bq, .slice ca lc.length cq, .string S] ?s2d ?s2e ?s2f ?s2g ?s2h ?s2i); (case s2a => rfl); (case s2b => rfl); (case s2c => rfl); (case s2e => exact HRG.out); (case s2f => exact Try.underlying95); (case s2g => rfl); (case s2h => kernel_rfl))
      | (go_at_call 45; ((refine (HR.out (by omega) (by omega)).mono ?_); rintro e w2 ⟨rfl, hh⟩))
      | fail)
    go_ret
    exact ⟨rfl, hh⟩
  · have hc : 1 ≤ kind := by omega
    have hd : 5 ≤ kind := by omega
    have he : 12 ≤ kind := by omega
    go_enter Try.func46, Try.ntmps46
    go_upto_region 1 with fail
    rw [HW1.out]
    obtain ⟨q0, q1, q2, q3, q4, q5⟩ := HBX.out.c
    go_wp2_with fail
    go_ret
    exact HE.out
end Go.Proofs.Ytkceaepbjdfccaa
