/-
A client's limits: DecodeLimits.
-/
import Derived.Test.YtkceaepbjdfccaaLim2
import Derived.Laws.ResultCell
namespace Go.Proofs.Ytkceaepbjdfccaa
open Go.RowKit
theorem results_cell_row2 {P : Program} {fn : Func} {p u : Tmp} {ty : TypeId} (h : fn.results = #[.cell p ty, .tmp u]) (tmps : Array Value) (w : World) (g : Nat) (t : TypeId) (cs : Array Value) (fr : Nat × Nat) (d : TypeDesc)
    (hp : tmps.getD p undef = .pointer (some ⟨g, 0, none⟩)) (hg : w.heap[g]? = some (.cells cs t fr))
    (hu : P.underlying ty = some d) (hd : (match d with | .struct _ | .array _ _ => true | _ => false) = true) (hi : (P.info? ty).map (·.size) = some cs.size) :
    (results fn tmps).run P w = .ok (.tuple #[.agg cs, tmps.getD u undef]) w := by
  rw [results_cell_tmp h, hp]
  simp [asAddr, run_loadVar_row w g t ty cs fr d hg hu hd hi, Result.andThen]
set_option maxRecDepth 100000 in
set_option maxHeartbeats 1000000 in
theorem decodeLimits_any (v : Value) (b : List UInt8) (w : World) (hv : Rd w v (bv b)) (hb : b.length ≤ 211106232532992) (l : Lim) (s1 s2 s3 s4 s5 s6 : Rst)
    (g0 : fieldL b ⟨0, 0, 0⟩ 0 2 = ((fieldL b ⟨0, 0, 0⟩ 0 2).1, s1)) (g1 : (fieldL b s1 0 2).2 = s2) (g2 : (fieldL b s2 0 2).2 = s3) (g3 : (fieldL b s3 0 2).2 = s4) (g4 : (fieldL b s4 0 2).2 = s5) (g5 : (fieldL b s5 0 4).2 = s6)
    (n0 : numL (fieldL b ⟨0, 0, 0⟩ 0 2).1 = l.peers) (n1 : numL (fieldL b s1 0 2).1 = l.prekeys) (n2 : numL (fieldL b s2 0 2).1 = l.skip) (n3 : numL (fieldL b s3 0 2).1 = l.skips) (n4 : numL (fieldL b s4 0 2).1 = l.outbox) (n5 : numL (fieldL b s5 0 4).1 = l.counter)
    (hok : (endL b s6).f = 0 → l.fit) :
    Calls Try.prog 43 #[v] w fun e w' => ∃ (z : Lim) (f : Int), e = .returned (.tuple #[z.v, .int .i64 f]) ∧ (((endL b s6).f ≠ 0 ∧ f = (endL b s6).f) ∨ ((endL b s6).f = 0 ∧ z = l ∧ f = 0)) ∧ Kp [] w w' := by
  obtain ⟨a0, c0, rfl⟩ := hv.form
  rw [bv_length] at hv ⊢
  obtain ⟨peers, prekeys, skip, skips, outbox, counter⟩ := l
  simp only at n0 n1 n2 n3 n4 n5
  have HV := Lib.hid hv
  have G0 := Lib.hid (congrArg Prod.snd g0)
  have G1 := Lib.hid g1
  have G2 := Lib.hid g2
  have G3 := Lib.hid g3
  have G4 := Lib.hid g4
  have G5 := Lib.hid g5
  have N0 := Lib.hid n0
  have N1 := Lib.hid n1
  have N2 := Lib.hid n2
  have N3 := Lib.hid n3
  have N4 := Lib.hid n4
  have N5 := Lib.hid n5
  have HOK := Lib.hid hok
  clear hv g0 g1 g2 g3 g4 g5 n0 n1 n2 n3 n4 n5 hok
  go_enter Try.func43, Try.ntmps43
  go_wp2_with fail
  refine (newReader_any _ b _ (HV.out.kp0 (by (repeat (first | exact Kp.refl _ _ | assumption | refine Kp.drewN ?_ _ | refine Kp.drew ?_ | refine Kp.alloc ?_ _ | refine Kp.trans0 ?_ (by assumption))))) hb).mono ?_
  rintro e w1 ⟨p, rv, rfl, hr, k1⟩
  have R0 := Lib.hid hr
  have K1 : Hid (Kp [] w w1) := Lib.hid (((Kp.refl [] w).alloc _).trans0 k1)
  have P0 : Hid (w.heap.size < p) := Lib.hid (by have := hr.le; have := k1.size; simp at *; omega)
  have C0 : Hid (∀ w', Kp [p] w1 w' → w'.heap[w.heap.size]? = some (.cells #[.int .i64 0, .int .i64 0, .int .i64 0, .int .i64 0, .int .i64 0, .int .u32 0] 74 (0, 0))) := Lib.hid (fun w' k => k.heap (k1.heap (heap_alloc_new _ _) (by simp)) (by rw [List.mem_singleton]; have := hr.le; have := k1.size; simp at *; omega))
  clear hr k1
  go_wp2_with fail
  refine (rU16_any _ p rv b _ w1 R0.out).mono ?_
  rintro e w2 ⟨rfl, r1, y1⟩
  rw [N0.out]
  rw [G0.out] at r1
  have R1 := Lib.hid r1
  have Y1 : Hid (Kp [p] w1 w2) := Lib.hid (y1)
  clear r1 y1 R0 N0 G0
  go_wp2_with fail
  refine (rU16_any _ p rv b _ w2 R1.out).mono ?_
  rintro e w3 ⟨rfl, r2, y2⟩
  rw [N1.out]
  rw [G1.out] at r2
  have R2 := Lib.hid r2
  have Y2 : Hid (Kp [p] w1 w3) := Lib.hid (Y1.out.trans y2 (fun m hm => .inl hm))
  clear r2 y2 R1 N1 G1 Y1
  go_wp2_with fail
  refine (rU16_any _ p rv b _ w3 R2.out).mono ?_
  rintro e w4 ⟨rfl, r3, y3⟩
  rw [N2.out]
  rw [G2.out] at r3
  have R3 := Lib.hid r3
  have Y3 : Hid (Kp [p] w1 w4) := Lib.hid (Y2.out.trans y3 (fun m hm => .inl hm))
  clear r3 y3 R2 N2 G2 Y2
  go_wp2_with fail
  refine (rU16_any _ p rv b _ w4 R3.out).mono ?_
  rintro e w5 ⟨rfl, r4, y4⟩
  rw [N3.out]
  rw [G3.out] at r4
  have R4 := Lib.hid r4
  have Y4 : Hid (Kp [p] w1 w5) := Lib.hid (Y3.out.trans y4 (fun m hm => .inl hm))
  clear r4 y4 R3 N3 G3 Y3
  go_wp2_with fail
  refine (rU16_any _ p rv b _ w5 R4.out).mono ?_
  rintro e w6 ⟨rfl, r5, y5⟩
  rw [N4.out]
  rw [G4.out] at r5
  have R5 := Lib.hid r5
  have Y5 : Hid (Kp [p] w1 w6) := Lib.hid (Y4.out.trans y5 (fun m hm => .inl hm))
  clear r5 y5 R4 N4 G4 Y4
  go_wp2_with fail
  refine (rU32_any _ p rv b _ w6 R5.out).mono ?_
  rintro e w7 ⟨rfl, r6, y6⟩
  rw [N5.out]
  rw [G5.out] at r6
  have R6 := Lib.hid r6
  have Y6 : Hid (Kp [p] w1 w7) := Lib.hid (Y5.out.trans y6 (fun m hm => .inl hm))
  clear r6 y6 R5 N5 G5 Y5
  go_wp2_with fail
  refine (rEnd_any _ p rv b _ _ (R6.out.kp0 (by (repeat (first | exact Kp.refl _ _ | assumption | refine Kp.drewN ?_ _ | refine Kp.drew ?_ | refine Kp.alloc ?_ _ | refine Kp.trans0 ?_ (by assumption)))))).mono ?_
  rintro e w8 ⟨rfl, r8, y8⟩
  have R8 := Lib.hid r8
  have Y8 : Hid (Kp [p] w1 w8) := Lib.hid ((Y6.out.alloc _).trans y8 (fun m hm => .inl hm))
  have L8 : Hid (∀ w', Kp [] w8 w' → w'.heap[w7.heap.size]? = some (.cells #[.int .i64 peers, .int .i64 prekeys, .int .i64 skip, .int .i64 skips, .int .i64 outbox, .int .u32 counter] 74 (0, 0))) := Lib.hid (fun w' k => k.heap (y8.heap (heap_alloc_new _ _) (by rw [List.mem_singleton]; have := R6.out.lt; omega)) (by simp))
  have NE : Hid (w7.heap.size ≠ w.heap.size) := Lib.hid (by have := P0.out; have := R6.out.lt; omega)
  have KX : Hid (Kp [] w w8) := Lib.hid (K1.out.trans Y8.out (fun m hm => by rw [List.mem_singleton] at hm; subst hm; exact .inr (Nat.le_of_lt P0.out)))
  clear r8 y8 R6 Y6 K1 P0
  by_cases hf : (endL b s6).f = 0
  · have HFit := Lib.hid (HOK.out hf)
    have HF0 := Lib.hid hf
    clear hf HOK
    go_wp2_with fail
    refine (rFault_ok _ p rv b _ w8 R8.out HF0.out).mono ?_
    rintro e w' ⟨rfl, rfl⟩
    have hl := L8.out w8 (Kp.refl _ _)
    have l0 : w8.cell? ⟨w7.heap.size, 0, none⟩ = some (.int .i64 peers) := by rw [cell_of_row w8 _ 0 _ _ _ hl]; rfl
    have lf0 : w8.frozen? ⟨w7.heap.size, 0, none⟩ = false := frozen_of_row w8 _ 0 _ _ hl
    have l1 : w8.cell? ⟨w7.heap.size, 1, none⟩ = some (.int .i64 prekeys) := by rw [cell_of_row w8 _ 1 _ _ _ hl]; rfl
    have lf1 : w8.frozen? ⟨w7.heap.size, 1, none⟩ = false := frozen_of_row w8 _ 1 _ _ hl
    have l2 : w8.cell? ⟨w7.heap.size, 2, none⟩ = some (.int .i64 skip) := by rw [cell_of_row w8 _ 2 _ _ _ hl]; rfl
    have lf2 : w8.frozen? ⟨w7.heap.size, 2, none⟩ = false := frozen_of_row w8 _ 2 _ _ hl
    have l3 : w8.cell? ⟨w7.heap.size, 3, none⟩ = some (.int .i64 skips) := by rw [cell_of_row w8 _ 3 _ _ _ hl]; rfl
    have lf3 : w8.frozen? ⟨w7.heap.size, 3, none⟩ = false := frozen_of_row w8 _ 3 _ _ hl
    have l4 : w8.cell? ⟨w7.heap.size, 4, none⟩ = some (.int .i64 outbox) := by rw [cell_of_row w8 _ 4 _ _ _ hl]; rfl
    have lf4 : w8.frozen? ⟨w7.heap.size, 4, none⟩ = false := frozen_of_row w8 _ 4 _ _ hl
    have l5 : w8.cell? ⟨w7.heap.size, 5, none⟩ = some (.int .u32 counter) := by rw [cell_of_row w8 _ 5 _ _ _ hl]; rfl
    have lf5 : w8.frozen? ⟨w7.heap.size, 5, none⟩ = false := frozen_of_row w8 _ 5 _ _ hl
    clear hl
    go_wp2_with fail
    refine (checkLimits_any ⟨peers, prekeys, skip, skips, outbox, counter⟩ _).mono ?_
    rintro e w9 ⟨r, rfl, hr, y9⟩
    have hr2 : r = 0 := by
      rcases hr with ⟨_, h⟩ | ⟨h, _⟩
      · exact h
      · exact (h HFit.out).elim
    subst hr2
    have KX9 := Lib.hid (KX.out.trans0 y9)
    have hl := L8.out w9 y9
    have hz := C0.out w9 (Y8.out.trans0 y9)
    clear hr y9 l0 l1 l2 l3 l4 l5 lf0 lf1 lf2 lf3 lf4 lf5 R8 KX Y8 C0 L8
    have l0 : w9.cell? ⟨w7.heap.size, 0, none⟩ = some (.int .i64 peers) := by rw [cell_of_row w9 _ 0 _ _ _ hl]; rfl
    have lf0 : w9.frozen? ⟨w7.heap.size, 0, none⟩ = false := frozen_of_row w9 _ 0 _ _ hl
    have l1 : w9.cell? ⟨w7.heap.size, 1, none⟩ = some (.int .i64 prekeys) := by rw [cell_of_row w9 _ 1 _ _ _ hl]; rfl
    have lf1 : w9.frozen? ⟨w7.heap.size, 1, none⟩ = false := frozen_of_row w9 _ 1 _ _ hl
    have l2 : w9.cell? ⟨w7.heap.size, 2, none⟩ = some (.int .i64 skip) := by rw [cell_of_row w9 _ 2 _ _ _ hl]; rfl
    have lf2 : w9.frozen? ⟨w7.heap.size, 2, none⟩ = false := frozen_of_row w9 _ 2 _ _ hl
    have l3 : w9.cell? ⟨w7.heap.size, 3, none⟩ = some (.int .i64 skips) := by rw [cell_of_row w9 _ 3 _ _ _ hl]; rfl
    have lf3 : w9.frozen? ⟨w7.heap.size, 3, none⟩ = false := frozen_of_row w9 _ 3 _ _ hl
    have l4 : w9.cell? ⟨w7.heap.size, 4, none⟩ = some (.int .i64 outbox) := by rw [cell_of_row w9 _ 4 _ _ _ hl]; rfl
    have lf4 : w9.frozen? ⟨w7.heap.size, 4, none⟩ = false := frozen_of_row w9 _ 4 _ _ hl
    have l5 : w9.cell? ⟨w7.heap.size, 5, none⟩ = some (.int .u32 counter) := by rw [cell_of_row w9 _ 5 _ _ _ hl]; rfl
    have lf5 : w9.frozen? ⟨w7.heap.size, 5, none⟩ = false := frozen_of_row w9 _ 5 _ _ hl
    have z0 : w9.cell? ⟨w.heap.size, 0, none⟩ = some (.int .i64 0) := by rw [cell_of_row w9 _ 0 _ _ _ hz]; rfl
    have zf0 : w9.frozen? ⟨w.heap.size, 0, none⟩ = false := frozen_of_row w9 _ 0 _ _ hz
    have z1 : w9.cell? ⟨w.heap.size, 1, none⟩ = some (.int .i64 0) := by rw [cell_of_row w9 _ 1 _ _ _ hz]; rfl
    have zf1 : w9.frozen? ⟨w.heap.size, 1, none⟩ = false := frozen_of_row w9 _ 1 _ _ hz
    have z2 : w9.cell? ⟨w.heap.size, 2, none⟩ = some (.int .i64 0) := by rw [cell_of_row w9 _ 2 _ _ _ hz]; rfl
    have zf2 : w9.frozen? ⟨w.heap.size, 2, none⟩ = false := frozen_of_row w9 _ 2 _ _ hz
    have z3 : w9.cell? ⟨w.heap.size, 3, none⟩ = some (.int .i64 0) := by rw [cell_of_row w9 _ 3 _ _ _ hz]; rfl
    have zf3 : w9.frozen? ⟨w.heap.size, 3, none⟩ = false := frozen_of_row w9 _ 3 _ _ hz
    have z4 : w9.cell? ⟨w.heap.size, 4, none⟩ = some (.int .i64 0) := by rw [cell_of_row w9 _ 4 _ _ _ hz]; rfl
    have zf4 : w9.frozen? ⟨w.heap.size, 4, none⟩ = false := frozen_of_row w9 _ 4 _ _ hz
    have z5 : w9.cell? ⟨w.heap.size, 5, none⟩ = some (.int .u32 0) := by rw [cell_of_row w9 _ 5 _ _ _ hz]; rfl
    have zf5 : w9.frozen? ⟨w.heap.size, 5, none⟩ = false := frozen_of_row w9 _ 5 _ _ hz
    have HZ := Lib.hid hz
    clear hl hz
    go_wp2_with fail
    have hz := HZ.out
    have e0 := hz
    have e1 := heap_setCell_same _ w.heap.size 0 _ _ (.int .i64 peers) e0
    have e2 := heap_setCell_same _ w.heap.size 1 _ _ (.int .i64 prekeys) e1
    have e3 := heap_setCell_same _ w.heap.size 2 _ _ (.int .i64 skip) e2
    have e4 := heap_setCell_same _ w.heap.size 3 _ _ (.int .i64 skips) e3
    have e5 := heap_setCell_same _ w.heap.size 4 _ _ (.int .i64 outbox) e4
    have e6 := heap_setCell_same _ w.heap.size 5 _ _ (.int .u32 counter) e5
    refine bodyPost_ret (results_cell_row2 rfl _ _ w.heap.size 74 _ _ _ rfl e6 Try.underlying74 rfl (by kernel_rfl)) rfl ?_
    exact ⟨⟨peers, prekeys, skip, skips, outbox, counter⟩, 0, rfl, .inr ⟨HF0.out, rfl, rfl⟩, ((((((KX9.out.setCell (.inr (Nat.le_refl _)) _).setCell (.inr (Nat.le_refl _)) _).setCell (.inr (Nat.le_refl _)) _).setCell (.inr (Nat.le_refl _)) _).setCell (.inr (Nat.le_refl _)) _).setCell (.inr (Nat.le_refl _)) _)⟩
  · have HF0 := Lib.hid hf
    have hfb : ((endL b s6).f == 0) = false := by simpa using hf
    clear hf HOK
    go_wp2_with fail
    refine (rFault_bad _ p rv b _ w8 R8.out HF0.out).mono ?_
    rintro e w' ⟨rfl, n9, rfl⟩
    have KX9 := Lib.hid (KX.out.drewN n9)
    have hz := C0.out (w8.drewN n9) (Y8.out.drewN n9)
    have HZ := Lib.hid hz
    clear R8 KX Y8 C0 L8
    generalize w8.drewN n9 = w9 at *
    generalize (endL b s6).wh = WH at *
    generalize hFF : (endL b s6).f = FF at *
    have HFF := Lib.hid hFF
    clear hFF
    have z0 : w9.cell? ⟨w.heap.size, 0, none⟩ = some (.int .i64 0) := by rw [cell_of_row w9 _ 0 _ _ _ hz]; rfl
    have zf0 : w9.frozen? ⟨w.heap.size, 0, none⟩ = false := frozen_of_row w9 _ 0 _ _ hz
    have z1 : w9.cell? ⟨w.heap.size, 1, none⟩ = some (.int .i64 0) := by rw [cell_of_row w9 _ 1 _ _ _ hz]; rfl
    have zf1 : w9.frozen? ⟨w.heap.size, 1, none⟩ = false := frozen_of_row w9 _ 1 _ _ hz
    have z2 : w9.cell? ⟨w.heap.size, 2, none⟩ = some (.int .i64 0) := by rw [cell_of_row w9 _ 2 _ _ _ hz]; rfl
    have zf2 : w9.frozen? ⟨w.heap.size, 2, none⟩ = false := frozen_of_row w9 _ 2 _ _ hz
    have z3 : w9.cell? ⟨w.heap.size, 3, none⟩ = some (.int .i64 0) := by rw [cell_of_row w9 _ 3 _ _ _ hz]; rfl
    have zf3 : w9.frozen? ⟨w.heap.size, 3, none⟩ = false := frozen_of_row w9 _ 3 _ _ hz
    have z4 : w9.cell? ⟨w.heap.size, 4, none⟩ = some (.int .i64 0) := by rw [cell_of_row w9 _ 4 _ _ _ hz]; rfl
    have zf4 : w9.frozen? ⟨w.heap.size, 4, none⟩ = false := frozen_of_row w9 _ 4 _ _ hz
    have z5 : w9.cell? ⟨w.heap.size, 5, none⟩ = some (.int .u32 0) := by rw [cell_of_row w9 _ 5 _ _ _ hz]; rfl
    have zf5 : w9.frozen? ⟨w.heap.size, 5, none⟩ = false := frozen_of_row w9 _ 5 _ _ hz
    clear hz
    go_wp2_with fail
    have hz := HZ.out
    have e0 := hz
    have e1 := heap_setCell_same _ w.heap.size 0 _ _ (.int .i64 0) e0
    have e2 := heap_setCell_same _ w.heap.size 1 _ _ (.int .i64 0) e1
    have e3 := heap_setCell_same _ w.heap.size 2 _ _ (.int .i64 0) e2
    have e4 := heap_setCell_same _ w.heap.size 3 _ _ (.int .i64 0) e3
    have e5 := heap_setCell_same _ w.heap.size 4 _ _ (.int .i64 0) e4
    have e6 := heap_setCell_same _ w.heap.size 5 _ _ (.int .u32 0) e5
    refine bodyPost_ret (results_cell_row2 rfl _ _ w.heap.size 74 _ _ _ rfl e6 Try.underlying74 rfl (by kernel_rfl)) rfl ?_
    exact ⟨⟨0, 0, 0, 0, 0, 0⟩, FF, rfl, .inl ⟨by rw [HFF.out]; exact HF0.out, HFF.out.symm⟩, ((((((KX9.out.setCell (.inr (Nat.le_refl _)) _).setCell (.inr (Nat.le_refl _)) _).setCell (.inr (Nat.le_refl _)) _).setCell (.inr (Nat.le_refl _)) _).setCell (.inr (Nat.le_refl _)) _).setCell (.inr (Nat.le_refl _)) _)⟩
end Go.Proofs.Ytkceaepbjdfccaa
