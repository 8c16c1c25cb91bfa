/-
A client's limits: EncodeLimits.
-/
import Derived.Test.YtkceaepbjdfccaaLim1
namespace Go.Proofs.Ytkceaepbjdfccaa
open Go.RowKit
/-- the first so many numbers, two bytes each -/
def Lim.pre (l : Lim) (j : Nat) : List UInt8 := (([l.peers, l.prekeys, l.skip, l.skips, l.outbox].take j).map be16).flatten
def Lim.enc (l : Lim) : List UInt8 := l.pre 5 ++ be32 l.counter
theorem Lim.pre_len (l : Lim) (j : Nat) (h : j ≤ 5) : (l.pre j).length = 2 * j := by
  have hj : j = 0 ∨ j = 1 ∨ j = 2 ∨ j = 3 ∨ j = 4 ∨ j = 5 := by omega
  rcases hj with rfl | rfl | rfl | rfl | rfl | rfl <;> rfl
/-- number j -/
def Lim.nth (l : Lim) (j : Nat) : Int := [l.peers, l.prekeys, l.skip, l.skips, l.outbox].getD j 0
theorem Lim.pre_succ (l : Lim) (j : Nat) (h : j < 5) : l.pre (j + 1) = l.pre j ++ be16 (l.nth j) := by
  have hj : j = 0 ∨ j = 1 ∨ j = 2 ∨ j = 3 ∨ j = 4 := by omega
  rcases hj with rfl | rfl | rfl | rfl | rfl <;> simp [Lim.pre, Lim.nth]
theorem Lim.nth_fit (l : Lim) (hl : l.fit) (j : Nat) (h : j < 5) : 0 ≤ l.nth j ∧ l.nth j < 65536 := by
  have hj : j = 0 ∨ j = 1 ∨ j = 2 ∨ j = 3 ∨ j = 4 := by omega
  obtain ⟨h1, h2, h3, h4, h5, _⟩ := hl
  rcases hj with rfl | rfl | rfl | rfl | rfl <;> simp [Lim.nth] <;> omega
theorem Lim.nth_cell (l : Lim) {w : World} {b : Nat} {T : TypeId} (h : w.heap[b]? = some (.cells #[.int .i64 l.peers, .int .i64 l.prekeys, .int .i64 l.skip, .int .i64 l.skips, .int .i64 l.outbox] T (0, 0))) (j : Nat) (hj5 : j < 5) :
    w.cell? ⟨b, j, none⟩ = some (.int .i64 (l.nth j)) := by
  have hj : j = 0 ∨ j = 1 ∨ j = 2 ∨ j = 3 ∨ j = 4 := by omega
  rcases hj with rfl | rfl | rfl | rfl | rfl <;> (rw [cell_of_row w b _ _ _ _ h]; rfl)
set_option maxRecDepth 100000 in
set_option maxHeartbeats 1000000 in
theorem encodeLimits_no (l : Lim) (h : ¬ l.fit) (w : World) :
    Calls Try.prog 41 #[l.v] w fun e w' => e = .returned (.tuple #[.slice none 0 0, .int .i64 2]) ∧ Kp [] w w' := by
  have HL := Lib.hid h
  clear h
  obtain ⟨peers, prekeys, skip, skips, outbox, counter⟩ := l
  unfold Lim.v
  simp only
  go_enter Try.func41, Try.ntmps41
  go_wp2_with fail
  refine (checkLimits_any ⟨peers, prekeys, skip, skips, outbox, counter⟩ _).mono ?_
  rintro e w' ⟨r, rfl, hr, k⟩
  have hr2 : r = 2 := by
    rcases hr with ⟨h, _⟩ | ⟨_, h⟩
    · exact (HL.out h).elim
    · exact h
  subst hr2
  clear hr HL
  go_wp2_with fail
  go_ret2
  exact ⟨rfl, ((Kp.refl [] w).alloc _).trans0 k⟩
set_option maxRecDepth 100000 in
set_option maxHeartbeats 1000000 in
theorem encodeLimits_yes (l : Lim) (h : l.fit) (hc : l.counter < 4294967296) (w : World) :
    Calls Try.prog 41 #[l.v] w fun e w' => ∃ g, e = .returned (.tuple #[.slice (some ⟨g, 0, none⟩) 14 14, .int .i64 0]) ∧ Own w' w.heap.size 5 (.slice (some ⟨g, 0, none⟩) 14 14) (bv l.enc) ∧ w.heap.size ≤ g ∧ g < w'.heap.size ∧ Kp [] w w' := by
  have HL := Lib.hid h
  clear h
  obtain ⟨peers, prekeys, skip, skips, outbox, counter⟩ := l
  unfold Lim.v
  simp only at hc ⊢
  go_enter Try.func41, Try.ntmps41
  go_wp2_with fail
  refine (checkLimits_any ⟨peers, prekeys, skip, skips, outbox, counter⟩ _).mono ?_
  rintro e w1 ⟨r, rfl, hr, k1⟩
  have hr2 : r = 0 := by
    rcases hr with ⟨_, h⟩ | ⟨h, _⟩
    · exact h
    · exact (h HL.out).elim
  subst hr2
  have HC : Hid (∀ w', Kp [] w1 w' → w'.heap[w.heap.size]? = some (.cells #[.int .i64 peers, .int .i64 prekeys, .int .i64 skip, .int .i64 skips, .int .i64 outbox, .int .u32 counter] 74 (0, 0))) := Lib.hid (fun w' k => k.heap (k1.heap (heap_alloc_new _ _) (by simp)) (by simp))
  have K1 : Hid (Kp [] w w1) := Lib.hid (((Kp.refl [] w).alloc _).trans0 k1)
  clear hr k1
  go_wp2_with fail
  refine (newWriter_yes 14 w1 (by decide) (by decide)).mono ?_
  rintro e w2 ⟨rfl, hw2, k2⟩
  have HW := Lib.hid hw2
  have K2 := Lib.hid k2
  have hp := HC.out w2 k2
  have hc0 : w2.cell? ⟨w.heap.size, 0, none⟩ = some (.int .i64 peers) := by rw [cell_of_row w2 _ 0 _ _ _ hp]; rfl
  have hc1 : w2.cell? ⟨w.heap.size, 1, none⟩ = some (.int .i64 prekeys) := by rw [cell_of_row w2 _ 1 _ _ _ hp]; rfl
  have hc2 : w2.cell? ⟨w.heap.size, 2, none⟩ = some (.int .i64 skip) := by rw [cell_of_row w2 _ 2 _ _ _ hp]; rfl
  have hc3 : w2.cell? ⟨w.heap.size, 3, none⟩ = some (.int .i64 skips) := by rw [cell_of_row w2 _ 3 _ _ _ hp]; rfl
  have hc4 : w2.cell? ⟨w.heap.size, 4, none⟩ = some (.int .i64 outbox) := by rw [cell_of_row w2 _ 4 _ _ _ hp]; rfl
  clear hw2 k2 hp
  go_wp2_with fail
  go_loopw [33] (fun i wr => ∃ (j : Nat) (ov : Value), j ≤ 5 ∧ i = .int .i64 j ∧ Hid (Wr wr w1.heap.size w1.heap.size 14 ov (Lim.pre ⟨peers, prekeys, skip, skips, outbox, counter⟩ j, 0) ∧ Kp [] w1 wr ∧ wr.heap[w2.heap.size]? = some (.cells #[.int .i64 peers, .int .i64 prekeys, .int .i64 skip, .int .i64 skips, .int .i64 outbox] 3 (0, 0)) ∧ w2.heap.size ∉ w1.heap.size :: ob ov)) (fun i _ => 5 - (intOf i).toNat)
  case atStart => exact ⟨0, .slice none 0 0, by decide, rfl, Lib.hid ⟨HW.out.kp0 ((Kp.refl [] w2).alloc _), K2.out.alloc _, heap_alloc_new _ _, HW.out.lt (Nat.le_refl _)⟩⟩
  case round =>
    obtain ⟨j, ov, hj, rfl, HR⟩ := hrel
    by_cases hlt : j < 5
    · have hcj := Lim.nth_cell ⟨peers, prekeys, skip, skips, outbox, counter⟩ HR.out.2.2.1 j hlt
      have HN := Lib.hid (Lim.nth_fit ⟨peers, prekeys, skip, skips, outbox, counter⟩ HL.out j hlt)
      have HPS := Lib.hid (Lim.pre_succ ⟨peers, prekeys, skip, skips, outbox, counter⟩ j hlt)
      have HPL := Lib.hid (Lim.pre_len ⟨peers, prekeys, skip, skips, outbox, counter⟩ j hj)
      generalize Lim.nth ⟨peers, prekeys, skip, skips, outbox, counter⟩ j = X at *
      go_wp2_with fail
      refine (wU16_any _ _ _ ov _ X wr HR.out.1 HR.out.2.1.size).mono ?_
      rintro e w3 ⟨ov', rfl, hw3, k3, hob⟩
      rw [withinE_of HN.out.1 HN.out.2, putL_ok _ _ _ (by rw [HPL.out]; simp [be16]; omega), ← HPS.out] at hw3
      have HW3 := Lib.hid hw3
      have HR3 : Hid (Kp [] w1 w3 ∧ w3.heap[w2.heap.size]? = some (.cells #[.int .i64 peers, .int .i64 prekeys, .int .i64 skip, .int .i64 skips, .int .i64 outbox] 3 (0, 0)) ∧ w2.heap.size ∉ w1.heap.size :: ob ov') := Lib.hid (by
        refine ⟨HR.out.1.stable HR.out.2.1 (Nat.le_refl _) w3 k3, k3.heap HR.out.2.2.1 HR.out.2.2.2, fun h => ?_⟩
        have hlt2 := (Array.getElem?_eq_some_iff.1 HR.out.2.2.1).1
        have hn := HR.out.2.2.2
        rcases List.mem_cons.1 h with h | h
        · exact hn (List.mem_cons.2 (.inl h))
        · rcases hob _ h with h | h
          · exact hn (List.mem_cons.2 (.inr h))
          · omega)
      clear hw3 k3 hob hcj
      go_wp2_with fail
      go_roundw
      case rel => exact ⟨j + 1, ov', by omega, by go_num, Lib.hid ⟨HW3.out, HR3.out⟩⟩
      case measure => simp [intOf]; omega
    · have hj5 : j = 5 := by omega
      subst hj5
      have hpc := HC.out wr HR.out.2.1
      have hc5 : wr.cell? ⟨w.heap.size, 5, none⟩ = some (.int .u32 counter) := by rw [cell_of_row wr _ 5 _ _ _ hpc]; rfl
      clear hpc
      have HPL := Lib.hid (Lim.pre_len ⟨peers, prekeys, skip, skips, outbox, counter⟩ 5 (Nat.le_refl _))
      go_wp2_with fail
      refine (wU32_any _ _ _ ov _ counter (by have := HL.out; simp only [Lim.fit] at this; omega) hc wr HR.out.1 HR.out.2.1.size).mono ?_
      rintro e w3 ⟨ov', rfl, hw3, k3, hob⟩
      rw [putL_ok _ _ _ (by rw [HPL.out]; simp [be32])] at hw3
      have HW3 := Lib.hid hw3
      have K3 := Lib.hid (HR.out.1.stable HR.out.2.1 (Nat.le_refl _) w3 k3)
      clear hw3 k3 hob hc5
      go_wp2_with fail
      refine (out_ok _ _ _ ov' _ w3 HW3.out).mono ?_
      rintro e w4 ⟨g, rfl, ho, hg, hg', k4⟩
      have hlen : (Lim.pre ⟨peers, prekeys, skip, skips, outbox, counter⟩ 5 ++ be32 counter).length = 14 := rfl
      rw [hlen] at ho ⊢
      have HO := Lib.hid ho
      have hsz : Hid (w.heap.size ≤ w3.heap.size) := Lib.hid (Nat.le_trans K1.out.size K3.out.size)
      clear ho hlen
      go_wp2_with fail
      go_ret2
      exact ⟨g, rfl, HO.out.base hsz.out, Nat.le_trans hsz.out hg, hg', (K1.out.trans0 K3.out).trans0 k4⟩
end Go.Proofs.Ytkceaepbjdfccaa
