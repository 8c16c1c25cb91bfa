/-
A client's limits: CheckLimits.
-/
import Derived.Test.YtkceaepbjdfccaaLaw0
namespace Go.Proofs.Ytkceaepbjdfccaa
open Go.RowKit
/-- limits as data -/
structure Lim where
  peers : Int
  prekeys : Int
  skip : Int
  skips : Int
  outbox : Int
  counter : Int
/-- limits as a value -/
def Lim.v (l : Lim) : Value := .agg #[.int .i64 l.peers, .int .i64 l.prekeys, .int .i64 l.skip, .int .i64 l.skips, .int .i64 l.outbox, .int .u32 l.counter]
/-- may they be a client's? -/
def Lim.fit (l : Lim) : Prop := (1 ≤ l.peers ∧ l.peers ≤ 16) ∧ (1 ≤ l.prekeys ∧ l.prekeys ≤ 64) ∧ (0 ≤ l.skip ∧ l.skip ≤ 64) ∧ (0 ≤ l.skips ∧ l.skips ≤ 256) ∧ (1 ≤ l.outbox ∧ l.outbox ≤ 64) ∧ 1 ≤ l.counter
set_option maxRecDepth 100000 in
set_option maxHeartbeats 400000 in
theorem within_yes (n lo hi : Int) (h0 : lo ≤ n) (h1 : n ≤ hi) (w : World) :
    Calls Try.prog 57 #[.int .i64 n, .int .i64 lo, .int .i64 hi] w fun e w' => e = .returned (.bool true) ∧ w = w' := by
  go_enter Try.func57, Try.ntmps57
  go_wp2_with fail
  go_ret
  exact ⟨by simp, rfl⟩
set_option maxRecDepth 100000 in
set_option maxHeartbeats 400000 in
theorem within_no (n lo hi : Int) (h : ¬ (lo ≤ n ∧ n ≤ hi)) (w : World) :
    Calls Try.prog 57 #[.int .i64 n, .int .i64 lo, .int .i64 hi] w fun e w' => e = .returned (.bool false) ∧ w = w' := by
  by_cases h0 : lo ≤ n
  · have h1 : ¬ n ≤ hi := fun k => h ⟨h0, k⟩
    clear h
    go_enter Try.func57, Try.ntmps57
    go_wp2_with fail
    go_ret
    exact ⟨by simp, rfl⟩
  · clear h
    go_enter Try.func57, Try.ntmps57
    go_wp2_with fail
    go_ret
    exact ⟨rfl, rfl⟩
set_option maxRecDepth 100000 in
set_option maxHeartbeats 1000000 in
theorem checkLimits_any (l : Lim) (w : World) :
    Calls Try.prog 42 #[l.v] w fun e w' => ∃ r : Int, e = .returned (.int .i64 r) ∧ ((l.fit ∧ r = 0) ∨ (¬ l.fit ∧ r = 2)) ∧ Kp [] w w' := by
  obtain ⟨peers, prekeys, skip, skips, outbox, counter⟩ := l
  unfold Lim.v Lim.fit
  simp only
  go_enter Try.func42, Try.ntmps42
  go_wp2_with fail
  by_cases c0 : ¬ (1 ≤ peers ∧ peers ≤ 16)
  · have C := Lib.hid c0
    clear c0
    refine (within_no peers 1 16 C.out _).mono ?_
    rintro e w' ⟨rfl, rfl⟩
    go_wp2_with fail
    go_ret
    exact ⟨2, rfl, .inr ⟨fun h => C.out h.1, rfl⟩, by (repeat (first | exact Kp.refl _ _ | assumption | refine Kp.drewN ?_ _ | refine Kp.drew ?_ | refine Kp.alloc ?_ _ | refine Kp.trans0 ?_ (by assumption)))⟩
  have C0 := Lib.hid (Decidable.not_not.1 c0)
  clear c0
  refine (within_yes peers 1 16 C0.out.1 C0.out.2 _).mono ?_
  rintro e w' ⟨rfl, rfl⟩
  go_wp2_with fail
  by_cases c1 : ¬ (1 ≤ prekeys ∧ prekeys ≤ 64)
  · have C := Lib.hid c1
    clear c1
    refine (within_no prekeys 1 64 C.out _).mono ?_
    rintro e w' ⟨rfl, rfl⟩
    go_wp2_with fail
    go_ret
    exact ⟨2, rfl, .inr ⟨fun h => C.out h.2.1, rfl⟩, by (repeat (first | exact Kp.refl _ _ | assumption | refine Kp.drewN ?_ _ | refine Kp.drew ?_ | refine Kp.alloc ?_ _ | refine Kp.trans0 ?_ (by assumption)))⟩
  have C1 := Lib.hid (Decidable.not_not.1 c1)
  clear c1
  refine (within_yes prekeys 1 64 C1.out.1 C1.out.2 _).mono ?_
  rintro e w' ⟨rfl, rfl⟩
  go_wp2_with fail
  by_cases c2 : ¬ (0 ≤ skip ∧ skip ≤ 64)
  · have C := Lib.hid c2
    clear c2
    refine (within_no skip 0 64 C.out _).mono ?_
    rintro e w' ⟨rfl, rfl⟩
    go_wp2_with fail
    go_ret
    exact ⟨2, rfl, .inr ⟨fun h => C.out h.2.2.1, rfl⟩, by (repeat (first | exact Kp.refl _ _ | assumption | refine Kp.drewN ?_ _ | refine Kp.drew ?_ | refine Kp.alloc ?_ _ | refine Kp.trans0 ?_ (by assumption)))⟩
  have C2 := Lib.hid (Decidable.not_not.1 c2)
  clear c2
  refine (within_yes skip 0 64 C2.out.1 C2.out.2 _).mono ?_
  rintro e w' ⟨rfl, rfl⟩
  go_wp2_with fail
  by_cases c3 : ¬ (0 ≤ skips ∧ skips ≤ 256)
  · have C := Lib.hid c3
    clear c3
    refine (within_no skips 0 256 C.out _).mono ?_
    rintro e w' ⟨rfl, rfl⟩
    go_wp2_with fail
    go_ret
    exact ⟨2, rfl, .inr ⟨fun h => C.out h.2.2.2.1, rfl⟩, by (repeat (first | exact Kp.refl _ _ | assumption | refine Kp.drewN ?_ _ | refine Kp.drew ?_ | refine Kp.alloc ?_ _ | refine Kp.trans0 ?_ (by assumption)))⟩
  have C3 := Lib.hid (Decidable.not_not.1 c3)
  clear c3
  refine (within_yes skips 0 256 C3.out.1 C3.out.2 _).mono ?_
  rintro e w' ⟨rfl, rfl⟩
  go_wp2_with fail
  by_cases c4 : ¬ (1 ≤ outbox ∧ outbox ≤ 64)
  · have C := Lib.hid c4
    clear c4
    refine (within_no outbox 1 64 C.out _).mono ?_
    rintro e w' ⟨rfl, rfl⟩
    go_wp2_with fail
    go_ret
    exact ⟨2, rfl, .inr ⟨fun h => C.out h.2.2.2.2.1, rfl⟩, by (repeat (first | exact Kp.refl _ _ | assumption | refine Kp.drewN ?_ _ | refine Kp.drew ?_ | refine Kp.alloc ?_ _ | refine Kp.trans0 ?_ (by assumption)))⟩
  have C4 := Lib.hid (Decidable.not_not.1 c4)
  clear c4
  refine (within_yes outbox 1 64 C4.out.1 C4.out.2 _).mono ?_
  rintro e w' ⟨rfl, rfl⟩
  by_cases c5 : 1 ≤ counter
  · go_wp2_with fail
    go_ret
    exact ⟨0, rfl, .inl ⟨⟨C0.out, C1.out, C2.out, C3.out, C4.out, c5⟩, rfl⟩, by (repeat (first | exact Kp.refl _ _ | assumption | refine Kp.drewN ?_ _ | refine Kp.drew ?_ | refine Kp.alloc ?_ _ | refine Kp.trans0 ?_ (by assumption)))⟩
  · go_wp2_with fail
    go_ret
    exact ⟨2, rfl, .inr ⟨fun h => by omega, rfl⟩, by (repeat (first | exact Kp.refl _ _ | assumption | refine Kp.drewN ?_ _ | refine Kp.drew ?_ | refine Kp.alloc ?_ _ | refine Kp.trans0 ?_ (by assumption)))⟩
end Go.Proofs.Ytkceaepbjdfccaa
