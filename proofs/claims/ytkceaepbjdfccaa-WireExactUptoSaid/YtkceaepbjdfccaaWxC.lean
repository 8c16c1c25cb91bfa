/-
The eight things of WireExact's table: writers and readers, the program's and the document's.
-/
import Derived.Test.YtkceaepbjdfccaaWxT
namespace Go.Proofs.Ytkceaepbjdfccaa
open Go.RowKit

/-- what a writer holds -/
structure Ws where
  most : Int
  s : List UInt8 × Int
/-- what a reader holds: its bytes, where it stands, its fault -/
structure Qs where
  b : List UInt8
  s : Rst

/-- the document's writer at block p -/
structure Vr (w : World) (B p : Nat) (most : Int) (ov : Value) (s : List UInt8 × Int) : Prop where
  hp : w.heap[p]? = some (.cells #[.int .i64 most, ov, .int .i64 s.2] 127 (0, 0))
  own : Own w B 5 ov (bv s.1)
  le : B ≤ p
  hl : (s.1.length : Int) ≤ most
  hm : most ≤ 1048576
theorem Vr.ne {w : World} {B p : Nat} {most : Int} {ov : Value} {s : List UInt8 × Int} (h : Vr w B p most ov s) : p ∉ ob ov := by
  rw [mem_ob]; exact h.own.not_at h.hp (by decide)
theorem Vr.kp {w w' : World} {L : List Nat} {B p : Nat} {most : Int} {ov : Value} {s : List UInt8 × Int} (h : Vr w B p most ov s) (k : Kp L w w') (hp : p ∉ L) (ho : ∀ b ∈ ob ov, b ∉ L) : Vr w' B p most ov s :=
  ⟨k.heap h.hp hp, h.own.kp k (fun b hb => ho b (mem_ob.2 hb)), h.le, h.hl, h.hm⟩
theorem Vr.kp0 {w w' : World} {B p : Nat} {most : Int} {ov : Value} {s : List UInt8 × Int} (h : Vr w B p most ov s) (k : Kp [] w w') : Vr w' B p most ov s := h.kp k (by simp) (by simp)
theorem Vr.lt {w : World} {B p : Nat} {most : Int} {ov : Value} {s : List UInt8 × Int} (h : Vr w B p most ov s) {b : Nat} (hb : w.heap.size ≤ b) : b ∉ p :: ob ov := by
  intro hm
  rcases List.mem_cons.1 hm with rfl | hm
  · have := (Array.getElem?_eq_some_iff.1 h.hp).1; omega
  · have := (h.own.lt (mem_ob.1 hm)).2; omega
theorem Vr.cells {w : World} {B p : Nat} {most : Int} {ov : Value} {s : List UInt8 × Int} (h : Vr w B p most ov s) :
    w.cell? ⟨p, 0, none⟩ = some (.int .i64 most) ∧ w.cell? ⟨p, 1, none⟩ = some ov ∧ w.cell? ⟨p, 2, none⟩ = some (.int .i64 s.2) := by
  refine ⟨?_, ?_, ?_⟩ <;> rw [cell_of_row w p _ _ _ _ h.hp] <;> rfl

/-- the document's reader at block p, of the bytes b -/
structure Qr (w : World) (B p : Nat) (rv : Value) (b : List UInt8) (s : Rst) : Prop where
  hp : w.heap[p]? = some (.cells #[rv, .int .i64 s.at_, .int .i64 s.f] 131 (0, 0))
  own : Own w B 5 rv (bv b)
  le : B ≤ p
  hat : s.at_ ≤ b.length
  hb : b.length ≤ 140737487306752
theorem Qr.ne {w : World} {B p : Nat} {rv : Value} {b : List UInt8} {s : Rst} (h : Qr w B p rv b s) : p ∉ ob rv := by
  rw [mem_ob]; exact h.own.not_at h.hp (by decide)
theorem Qr.kp {w w' : World} {L : List Nat} {B p : Nat} {rv : Value} {b : List UInt8} {s : Rst} (h : Qr w B p rv b s) (k : Kp L w w') (hp : p ∉ L) (ho : ∀ g ∈ ob rv, g ∉ L) : Qr w' B p rv b s :=
  ⟨k.heap h.hp hp, h.own.kp k (fun g hg => ho g (mem_ob.2 hg)), h.le, h.hat, h.hb⟩
theorem Qr.kp0 {w w' : World} {B p : Nat} {rv : Value} {b : List UInt8} {s : Rst} (h : Qr w B p rv b s) (k : Kp [] w w') : Qr w' B p rv b s := h.kp k (by simp) (by simp)
theorem Qr.set {w w' : World} {B p : Nat} {rv : Value} {b : List UInt8} {s s' : Rst} (h : Qr w B p rv b s) (k : Kp [p] w w')
    (hp : w'.heap[p]? = some (.cells #[rv, .int .i64 s'.at_, .int .i64 s'.f] 131 (0, 0))) (ha : s'.at_ ≤ b.length) : Qr w' B p rv b s' :=
  ⟨hp, h.own.kp k (fun g hg => by rw [List.mem_singleton]; intro e; subst e; exact h.ne (mem_ob.2 hg)), h.le, ha, h.hb⟩
theorem Qr.cells {w : World} {B p : Nat} {rv : Value} {b : List UInt8} {s : Rst} (h : Qr w B p rv b s) :
    w.cell? ⟨p, 0, none⟩ = some rv ∧ w.cell? ⟨p, 1, none⟩ = some (.int .i64 s.at_) ∧ w.cell? ⟨p, 2, none⟩ = some (.int .i64 s.f) := by
  refine ⟨?_, ?_, ?_⟩ <;> rw [cell_of_row w p _ _ _ _ h.hp] <;> rfl
theorem Qr.lt {w : World} {B p : Nat} {rv : Value} {b : List UInt8} {s : Rst} (h : Qr w B p rv b s) : p < w.heap.size := (Array.getElem?_eq_some_iff.1 h.hp).1

/-! the things, each as what is said of blocks and a value -/
def CW (m : Option Ws) : Pr := fun w F v => match m with
  | none => v = .pointer none
  | some m => ∃ (p B : Nat) (ov : Value), v = .pointer (some ⟨p, 0, none⟩) ∧ F p ∧ (∀ b ∈ ob ov, F b) ∧ B ≤ w.heap.size ∧ Wr w B p m.most ov m.s
def CV (m : Option Ws) : Pr := fun w F v => match m with
  | none => v = .pointer none
  | some m => ∃ (p B : Nat) (ov : Value), v = .pointer (some ⟨p, 0, none⟩) ∧ F p ∧ (∀ b ∈ ob ov, F b) ∧ B ≤ w.heap.size ∧ Vr w B p m.most ov m.s
def CR (m : Option Qs) : Pr := fun w F v => match m with
  | none => v = .pointer none
  | some m => ∃ (p B : Nat) (rv : Value), v = .pointer (some ⟨p, 0, none⟩) ∧ F p ∧ (∀ b ∈ ob rv, F b) ∧ B ≤ w.heap.size ∧ (m.s.f ≠ 0 → m.s.wh = m.s.at_) ∧ m.b.length ≤ 1048576 ∧ Rr w B p rv m.b m.s
def CQ (m : Option Qs) : Pr := fun w F v => match m with
  | none => v = .pointer none
  | some m => ∃ (p B : Nat) (rv : Value), v = .pointer (some ⟨p, 0, none⟩) ∧ F p ∧ (∀ b ∈ ob rv, F b) ∧ B ≤ w.heap.size ∧ m.b.length ≤ 1048576 ∧ Qr w B p rv m.b m.s
theorem frm_CW (m : Option Ws) : Frm (CW m) := by
  refine ⟨fun {w w' F F' v L} h k hL hF => ?_⟩
  cases m with
  | none => exact h
  | some m =>
    obtain ⟨p, B, ov, rfl, hp, ho, hB, hW⟩ := h
    exact ⟨p, B, ov, rfl, hF p hp, fun b hb => hF b (ho b hb), Nat.le_trans hB k.size, hW.kp k (fun hm => hL p hm hp) (fun b hb hm => hL b hm (ho b hb))⟩
theorem frm_CV (m : Option Ws) : Frm (CV m) := by
  refine ⟨fun {w w' F F' v L} h k hL hF => ?_⟩
  cases m with
  | none => exact h
  | some m =>
    obtain ⟨p, B, ov, rfl, hp, ho, hB, hW⟩ := h
    exact ⟨p, B, ov, rfl, hF p hp, fun b hb => hF b (ho b hb), Nat.le_trans hB k.size, hW.kp k (fun hm => hL p hm hp) (fun b hb hm => hL b hm (ho b hb))⟩
theorem frm_CR (m : Option Qs) : Frm (CR m) := by
  refine ⟨fun {w w' F F' v L} h k hL hF => ?_⟩
  cases m with
  | none => exact h
  | some m =>
    obtain ⟨p, B, rv, rfl, hp, ho, hB, h1, h2, hW⟩ := h
    exact ⟨p, B, rv, rfl, hF p hp, fun b hb => hF b (ho b hb), Nat.le_trans hB k.size, h1, h2, hW.kp k (fun hm => hL p hm hp) (fun b hb hm => hL b hm (ho b hb))⟩
theorem frm_CQ (m : Option Qs) : Frm (CQ m) := by
  refine ⟨fun {w w' F F' v L} h k hL hF => ?_⟩
  cases m with
  | none => exact h
  | some m =>
    obtain ⟨p, B, rv, rfl, hp, ho, hB, h2, hW⟩ := h
    exact ⟨p, B, rv, rfl, hF p hp, fun b hb => hF b (ho b hb), Nat.le_trans hB k.size, h2, hW.kp k (fun hm => hL p hm hp) (fun b hb hm => hL b hm (ho b hb))⟩
end Go.Proofs.Ytkceaepbjdfccaa
