/-
A writer: its words; what NewWriter, within and put come to.
-/
import Derived.Test.YtkceaepbjdfccaaWire5
import Derived.Test.YtkceaepbjdfccaaSub
namespace Go.Proofs.Ytkceaepbjdfccaa
open Go.RowKit

/-- the block of a slice that is owned -/
def ob (v : Value) : List Nat := match v.ownBlock with | some g => [g] | none => []
theorem ob_none (n c : Nat) : ob (.slice none n c) = [] := rfl
theorem mem_ob {v : Value} {b : Nat} : b ∈ ob v ↔ v.ownBlock = some b := by
  unfold ob
  cases h : v.ownBlock with
  | none => simp
  | some g => simp [eq_comm]

/-- what a field does to (bytes, fault) -/
def putL (most : Int) (s : List UInt8 × Int) (e : Int) (x : List UInt8) : List UInt8 × Int :=
  if s.2 ≠ 0 then s else if e ≠ 0 then (s.1, e) else if most - s.1.length < x.length then (s.1, 5) else (s.1 ++ x, 0)

/-- a writer at block p -/
structure Wr (w : World) (B p : Nat) (most : Int) (ov : Value) (s : List UInt8 × Int) : Prop where
  hp : w.heap[p]? = some (.cells #[.int .i64 most, ov, .int .i64 s.2] 107 (0, 0))
  own : Own w B 5 ov (bv s.1)
  le : B ≤ p
  hl : (s.1.length : Int) ≤ most
  hm : most ≤ 1048576

theorem Own.block {w : World} {B : Nat} {e : TypeId} {v : Value} {xs : List Value} (h : Own w B e v xs) {b : Nat} (hb : v.ownBlock = some b) : ∃ cur, w.heap[b]? = some (.cells cur e (0, 0)) := by
  rcases h.2 with ⟨rfl, _⟩ | ⟨g, cap, cur, rfl, _, hg, _⟩
  · cases hb
  · cases hb; exact ⟨cur, hg⟩
theorem Own.not_at {w : World} {B : Nat} {e T : TypeId} {v : Value} {xs : List Value} (h : Own w B e v xs) {p : Nat} {cs : Array Value} {fz : Nat × Nat} (hp : w.heap[p]? = some (.cells cs T fz)) (hT : T ≠ e) : v.ownBlock ≠ some p := by
  intro hb
  obtain ⟨cur, hc⟩ := h.block hb
  rw [hc] at hp
  simp only [Option.some.injEq, Obj.cells.injEq] at hp
  exact hT hp.2.1.symm
theorem Wr.ne {w : World} {B p : Nat} {most : Int} {ov : Value} {s : List UInt8 × Int} (h : Wr w B p most ov s) : p ∉ ob ov := by
  rw [mem_ob]; exact h.own.not_at h.hp (by decide)
theorem Wr.kp {w w' : World} {L : List Nat} {B p : Nat} {most : Int} {ov : Value} {s : List UInt8 × Int} (h : Wr w B p most ov s) (k : Kp L w w') (hp : p ∉ L) (ho : ∀ b ∈ ob ov, b ∉ L) : Wr w' B p most ov s :=
  ⟨k.heap h.hp hp, h.own.kp k (fun b hb => ho b (mem_ob.2 hb)), h.le, h.hl, h.hm⟩
theorem Wr.kp0 {w w' : World} {B p : Nat} {most : Int} {ov : Value} {s : List UInt8 × Int} (h : Wr w B p most ov s) (k : Kp [] w w') : Wr w' B p most ov s := h.kp k (by simp) (by simp)

set_option maxRecDepth 100000 in
set_option maxHeartbeats 400000 in
theorem newWriter_yes (n : Int) (w : World) (h0 : 0 ≤ n) (h1 : n ≤ 1048576) :
    Calls Try.prog 29 #[.int .i64 n] w fun e w' => e = .returned (.tuple #[.pointer (some ⟨w.heap.size, 0, none⟩), .int .i64 0]) ∧
      Wr w' w.heap.size w.heap.size n (.slice none 0 0) ([], 0) ∧ Kp [] w w' := by
  go_enter Try.func29, Try.ntmps29
  go_wp2
  go_ret2
  exact ⟨rfl, ⟨heap_alloc_new _ _, Own.nil _ _ _, Nat.le_refl _, h0, h1⟩, (Kp.refl _ _).alloc _⟩
set_option maxRecDepth 100000 in
set_option maxHeartbeats 400000 in
theorem newWriter_no (n : Int) (w : World) (h : n < 0 ∨ 1048576 < n) :
    Calls Try.prog 29 #[.int .i64 n] w fun e w' => e = .returned (.tuple #[.pointer none, .int .i64 4]) ∧ w = w' := by
  rcases h with h | h
  · go_enter Try.func29, Try.ntmps29
    go_wp2
    go_ret2
    exact ⟨rfl, rfl⟩
  · have h0 : ¬ n < 0 := by omega
    go_enter Try.func29, Try.ntmps29
    go_wp2
    go_ret2
    exact ⟨rfl, rfl⟩
/-- the error of a number that is to have so many bits -/
def withinE (n : Int) (m : Int) : Int := if n < 0 ∨ m ≤ n then 4 else 0
set_option maxRecDepth 100000 in
set_option maxHeartbeats 400000 in
theorem within8 (n : Int) (w : World) : Calls Try.prog 54 #[.int .i64 n, .int .i64 8] w fun e w' => e = .returned (.int .i64 (withinE n 256)) ∧ w = w' := by
  by_cases h : n < 0
  · have e : withinE n 256 = 4 := by unfold withinE; rw [if_pos (by omega)]
    have E := Lib.hid e; clear e
    go_enter Try.func54, Try.ntmps54
    go_wp2
    go_ret
    exact ⟨by rw [E.out]; rfl, rfl⟩
  · by_cases h2 : 256 ≤ n
    · have e : withinE n 256 = 4 := by unfold withinE; rw [if_pos (by omega)]
      have E := Lib.hid e; clear e
      have hb : (n / 256 != 0) = true := by rw [bne_iff_ne]; omega
      go_enter Try.func54, Try.ntmps54
      go_wp2
      go_ret
      exact ⟨by rw [E.out]; rfl, rfl⟩
    · have e : withinE n 256 = 0 := by unfold withinE; rw [if_neg (by omega)]
      have E := Lib.hid e; clear e
      have hb : (n / 256 != 0) = false := by rw [bne_eq_false_iff_eq]; omega
      go_enter Try.func54, Try.ntmps54
      go_wp2
      go_ret
      exact ⟨by rw [E.out]; rfl, rfl⟩
set_option maxRecDepth 100000 in
set_option maxHeartbeats 400000 in
theorem within16 (n : Int) (w : World) : Calls Try.prog 54 #[.int .i64 n, .int .i64 16] w fun e w' => e = .returned (.int .i64 (withinE n 65536)) ∧ w = w' := by
  by_cases h : n < 0
  · have e : withinE n 65536 = 4 := by unfold withinE; rw [if_pos (by omega)]
    have E := Lib.hid e; clear e
    go_enter Try.func54, Try.ntmps54
    go_wp2
    go_ret
    exact ⟨by rw [E.out]; rfl, rfl⟩
  · by_cases h2 : 65536 ≤ n
    · have e : withinE n 65536 = 4 := by unfold withinE; rw [if_pos (by omega)]
      have E := Lib.hid e; clear e
      have hb : (n / 65536 != 0) = true := by rw [bne_iff_ne]; omega
      go_enter Try.func54, Try.ntmps54
      go_wp2
      go_ret
      exact ⟨by rw [E.out]; rfl, rfl⟩
    · have e : withinE n 65536 = 0 := by unfold withinE; rw [if_neg (by omega)]
      have E := Lib.hid e; clear e
      have hb : (n / 65536 != 0) = false := by rw [bne_eq_false_iff_eq]; omega
      go_enter Try.func54, Try.ntmps54
      go_wp2
      go_ret
      exact ⟨by rw [E.out]; rfl, rfl⟩
end Go.Proofs.Ytkceaepbjdfccaa
