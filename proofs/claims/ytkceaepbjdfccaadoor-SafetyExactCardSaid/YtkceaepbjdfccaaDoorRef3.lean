/-
letheref02.schedule.
-/
import Derived.Test.YtkceaepbjdfccaaDoorRef2
namespace Go.Proofs.YtkceaepbjdfccaaDoor
open Go.RowKit
def u64s (l : List Int) : Array Value := (l.map (Value.int .u64)).toArray
theorem u64s_size (l : List Int) : (u64s l).size = l.length := by simp [u64s]
theorem u64s_getD (l : List Int) (i : Nat) (h : i < l.length) : (u64s l)[i]? = some (.int .u64 (l.getD i 0)) := by rw [u64s, List.getElem?_toArray, List.getElem?_map, List.getElem?_eq_getElem h, List.getD_eq_getElem?_getD, List.getElem?_eq_getElem h]; rfl
theorem u64s_set (l : List Int) (i : Nat) (x : Int) : (u64s l).setIfInBounds i (.int .u64 x) = u64s (l.set i x) := by
  apply Array.ext'; simp [u64s, List.map_set]
theorem one_u64s (l : List Int) : (u64s l).all (·.oneCell') = true := by
  refine Array.all_eq_true_iff_forall_mem.2 (fun v hv => ?_)
  simp only [u64s, List.mem_toArray, List.mem_map] at hv
  obtain ⟨x, _, rfl⟩ := hv
  rfl
/-- what lies where, while a schedule is reckoned -/
structure RM (w W : World) (A : Nat) (bl ws : List Int) : Prop where
  k : Kp [] w W
  hA : w.heap.size ≤ A
  h0 : W.heap[A]? = some (.cells (u8s bl) 127 (0, 0))
  h1 : W.heap[A + 1]? = some (.cells (u64s (List.replicate 64 0)) 168 (0, 0))
  h2 : W.heap[A + 1 + 1]? = some (.cells (u64s ws) 168 (0, 0))
theorem RM.drew {w W : World} {A : Nat} {bl ws : List Int} (h : RM w W A bl ws) : RM w W.drew A bl ws := ⟨h.k.drew, h.hA, h.h0, h.h1, h.h2⟩
theorem RM.drewN {w W : World} {A : Nat} {bl ws : List Int} (h : RM w W A bl ws) (n : Nat) : RM w (W.drewN n) A bl ws := ⟨h.k.drewN n, h.hA, h.h0, h.h1, h.h2⟩
theorem RM.set {w W : World} {A : Nat} {bl ws : List Int} (h : RM w W A bl ws) (j : Nat) (x : Int) : RM w (W.setCell ⟨A + 1 + 1, j, none⟩ (.int .u64 x)) A bl (ws.set j x) := by
  have k : Kp [A + 1 + 1] W (W.setCell ⟨A + 1 + 1, j, none⟩ (.int .u64 x)) := (Kp.refl _ W).setCell (.inl (by simp)) _
  have hA := h.hA
  refine ⟨h.k.trans k (fun m hm => by rw [List.mem_singleton] at hm; subst hm; exact .inr (by omega)), hA, k.heap h.h0 (by simp; omega), k.heap h.h1 (by simp), ?_⟩
  rw [← u64s_set]
  exact heap_setCell_same W _ j _ _ (.int .u64 x) h.h2
theorem RM.res {w W : World} {A : Nat} {bl ws : List Int} (h : RM w W A bl ws) (cs : Array Value) : Kp [] w (W.setRow (A + 1) cs) ∧ (W.setRow (A + 1) cs).heap[A + 1]? = some (.cells cs 168 (0, 0)) := by
  have hA := h.hA
  have k : Kp [A + 1] W (W.setRow (A + 1) cs) := ⟨rfl, rfl, rfl, by simp, fun j _ hn => setRow_other _ _ _ _ (by simpa using hn)⟩
  exact ⟨h.k.trans k (fun m hm => by rw [List.mem_singleton] at hm; subst hm; exact .inr (by omega)), setRow_heap W _ _ _ _ _ h.h1⟩
/-- a word, so many of its bytes taken -/
def part (bl : List Int) (t : Nat) : Nat → Int
  | 0 => 0
  | k + 1 => part bl t k * 256 + bl.getD (4 * t + k) 0
theorem b8_getD {bl : List Int} (h : ∀ x ∈ bl, B8 x) (i : Nat) : B8 (bl.getD i 0) := by
  rw [List.getD_eq_getElem?_getD]
  by_cases hi : i < bl.length
  · rw [List.getElem?_eq_getElem hi]; exact h _ (List.getElem_mem hi)
  · rw [List.getElem?_eq_none (by omega)]; exact ⟨by decide, by decide⟩
theorem part_rng {bl : List Int} (h : ∀ x ∈ bl, B8 x) (t : Nat) (k : Nat) (hk : k ≤ 3) : 0 ≤ part bl t k ∧ part bl t k < 16777216 := by
  have h0 := b8_getD h (4 * t + 0)
  have h1 := b8_getD h (4 * t + 1)
  have h2 := b8_getD h (4 * t + 2)
  unfold B8 at h0 h1 h2
  have : k = 0 ∨ k = 1 ∨ k = 2 ∨ k = 3 := by omega
  rcases this with rfl | rfl | rfl | rfl <;> simp only [part] <;> omega
theorem part_word {bl : List Int} (h : ∀ x ∈ bl, B8 x) (t : Nat) : part bl t 4 = word (bl.getD (4 * t) 0) (bl.getD (4 * t + 1) 0) (bl.getD (4 * t + 2) 0) (bl.getD (4 * t + 3) 0) := by
  rw [word_eq (b8_getD h _) (b8_getD h _) (b8_getD h _) (b8_getD h _)]
  simp [part]
theorem sch1_late (bl : List Int) : ∀ t i, t ≤ i → (sch1 bl t)[i]? = (List.replicate 64 (0 : Int))[i]?
  | 0, _, _ => rfl
  | t + 1, i, h => by
    rw [sch1, List.getElem?_set_ne (by omega)]
    exact sch1_late bl t i (by omega)
theorem sch1_set0 (bl : List Int) (t : Nat) (ht : t < 64) : (sch1 bl t).set t 0 = sch1 bl t := by
  apply List.ext_getElem?
  intro i
  by_cases hi : i = t
  · subst hi
    rw [List.getElem?_set_self (by rw [sch1_len]; exact ht), sch1_late bl i i (Nat.le_refl _), List.getElem?_replicate, if_pos ht]
  · rw [List.getElem?_set_ne (by omega)]
theorem three_rows (w : World) (a b c : Obj) : ((((w.alloc a).alloc b).alloc c).heap[w.heap.size]? = some a) ∧ ((((w.alloc a).alloc b).alloc c).heap[w.heap.size + 1]? = some b) ∧
    ((((w.alloc a).alloc b).alloc c).heap[w.heap.size + 1 + 1]? = some c) := by
  have e1 : (w.alloc a).heap.size = w.heap.size + 1 := by simp
  have e2 : ((w.alloc a).alloc b).heap.size = w.heap.size + 1 + 1 := by simp
  have r0 := heap_alloc_new w a
  have r1 := heap_alloc_new (w.alloc a) b
  have r2 := heap_alloc_new ((w.alloc a).alloc b) c
  rw [e1] at r1
  rw [e2] at r2
  refine ⟨?_, ?_, r2⟩
  · rw [heap_alloc_old _ c (by rw [e2]; omega), heap_alloc_old _ b (by rw [e1]; omega)]; exact r0
  · rw [heap_alloc_old _ c (by rw [e2]; omega)]; exact r1
set_option maxRecDepth 100000 in
set_option maxHeartbeats 1000000 in
theorem schedule_any (bl : List Int) (hbl : bl.length = 64) (hb8 : ∀ x ∈ bl, B8 x) (w : World) :
    Calls Tryd.prog 91 #[.agg (u8s bl)] w fun e w' => e = .returned (.agg (u64s (sch2 bl 48))) ∧ Kp [] w w' := by
  have HB := Lib.hid hbl
  have HB8 := Lib.hid hb8
  clear hbl hb8
  go_enter Tryd.func91, Tryd.ntmps91
  go_upto_block 0 with fail
  have HM : Hid (RM w (((w.alloc (.cells (u8s bl) 127)).alloc (.cells (u64s (List.replicate 64 0)) 168)).alloc (.cells (u64s (List.replicate 64 0)) 168)) w.heap.size bl (List.replicate 64 0)) := Lib.hid (by
    obtain ⟨r0, r1, r2⟩ := three_rows w (.cells (u8s bl) 127) (.cells (u64s (List.replicate 64 0)) 168) (.cells (u64s (List.replicate 64 0)) 168)
    exact ⟨(((Kp.refl [] w).alloc _).alloc _).alloc _, Nat.le_refl _, r0, r1, r2⟩)
  generalize hA : w.heap.size = A at *
  clear hA
  go_cut [4, 5] (fun _ _ w' => Hid (RM w w' A bl (sch1 bl 16)))
  case first =>
    go_wp2_with fail
    go_loopw [4, 5] (fun i _ wr => ∃ t : Nat, t ≤ 16 ∧ i = .int .i64 t ∧ Hid (RM w wr A bl (sch1 bl t))) (fun i _ _ => 16 - (intOf i).toNat)
    case atStart => exact ⟨0, Nat.zero_le _, rfl, HM⟩
    case round =>
      obtain ⟨t, ht, rfl, HR⟩ := hrel
      by_cases hlt : t < 16
      · have hltI : (t : Int) < 16 := by omega
        go_wp2_with fail
        go_loopw [5] (fun j wx => ∃ k : Nat, k ≤ 4 ∧ j = .int .i64 k ∧ Hid (RM w wx A bl ((sch1 bl t).set t (part bl t k)))) (fun j _ => 4 - (intOf j).toNat)
        case atStart => exact ⟨0, Nat.zero_le _, rfl, Lib.hid (by rw [show part bl t 0 = 0 from rfl, sch1_set0 bl t (by omega)]; exact HR.out)⟩
        case round =>
          clear HR
          obtain ⟨k, hk, rfl, HR⟩ := hrel
          by_cases hlk : k < 4
          · have hlkI : (k : Int) < 4 := by omega
            have b0 : wr.cell? ⟨A, 4 * t + k, none⟩ = some (.int .u8 (bl.getD (4 * t + k) 0)) := by
              rw [cell_of_row _ _ _ _ _ _ HR.out.h0, u8s_getD _ _ (by rw [HB.out]; omega)]
            have c0 : wr.cell? ⟨A + 1 + 1, t, none⟩ = some (.int .u64 (part bl t k)) := by
              rw [cell_of_row _ _ _ _ _ _ HR.out.h2, u64s_getD _ _ (by rw [List.length_set, sch1_len]; omega), List.getD_eq_getElem?_getD, List.getElem?_set_self (by rw [sch1_len]; omega)]
              rfl
            have cf : wr.frozen? ⟨A + 1 + 1, t, none⟩ = false := frozen_of_row wr _ t _ _ HR.out.h2
            have HST : Hid (part bl t (k + 1) = part bl t k * 256 + bl.getD (4 * t + k) 0) := Lib.hid rfl
            have HSS : Hid (∀ y, ((sch1 bl t).set t (part bl t k)).set t y = (sch1 bl t).set t y) := Lib.hid (fun y => by simp)
            have hp := part_rng HB8.out t k (by omega)
            have hb := b8_getD HB8.out (4 * t + k)
            unfold B8 at hb
            generalize part bl t k = y at *
            generalize bl.getD (4 * t + k) 0 = x at *
            have i0 : (0 : Int) ≤ 4 * (t : Int) + (k : Int) := by omega
            have i1 : 4 * (t : Int) + (k : Int) < 64 := by omega
            have i5 : (t : Int) < 64 := by omega
            have w0 : IntKind.i64.wrap (4 * (t : Int)) = 4 * (t : Int) := IntWalk.i64_in _ (by omega)
            have w1 : IntKind.i64.wrap (4 * (t : Int) + (k : Int)) = 4 * (t : Int) + (k : Int) := IntWalk.i64_in _ (by omega)
            have n1 : (4 * (t : Int) + (k : Int)).toNat = 4 * t + k := by omega
            have v1 : IntKind.u64.wrap (y * 256) = y * 256 := by rw [IntKind.wrap_u64]; omega
            have v2 : IntKind.u64.wrap (y * 256 + x) = y * 256 + x := by rw [IntKind.wrap_u64]; omega
            have v3 : IntKind.u64.wrap x = x := by rw [IntKind.wrap_u64]; omega
            go_wp2_with fail
            go_still_tail 14, (by kernel_rfl)
            go_wp2_with fail
            go_roundw
            case rel => exact ⟨k + 1, by omega, by go_num, Lib.hid (by have h := (HR.out.set t (y * 256 + x)).drew; rw [HSS.out] at h; rw [HST.out]; exact h)⟩
            case measure => simp [intOf]; omega
          · have hlkI : ¬ (k : Int) < 4 := by omega
            obtain rfl : k = 4 := by omega
            have HW : Hid ((sch1 bl t).set t (part bl t 4) = sch1 bl (t + 1)) := Lib.hid (by rw [part_word HB8.out t]; rfl)
            have HR2 : Hid (RM w wr A bl (sch1 bl (t + 1))) := Lib.hid (by have h := HR.out; rw [HW.out] at h; exact h)
            clear HR
            go_wp2_with fail
            go_roundw
            case rel => exact ⟨t + 1, by omega, by go_num, HR2⟩
            case measure => simp [intOf]; omega
      · have ht16 : t = 16 := by omega
        subst ht16
        go_wp2_with fail
        go_meet
        exact HR
  case rest =>
    have HM2 := Lib.hid hcut.out
    clear hcut HM
    go_upto_block 4 with fail
    go_cut [6, 7, 8] (fun _ _ _ w' => Hid (RM w w' A bl (sch2 bl 48)))
    case first =>
      go_wp2_with fail
      go_loopw [6, 7, 8] (fun i _ _ wr => ∃ t : Nat, 16 ≤ t ∧ t ≤ 64 ∧ i = .int .i64 t ∧ Hid (RM w wr A bl (sch2 bl (t - 16)))) (fun i _ _ _ => 64 - (intOf i).toNat)
      case atStart => exact ⟨16, Nat.le_refl _, by decide, rfl, HM2⟩
      case round =>
        obtain ⟨t, ht0, ht, rfl, HR⟩ := hrel
        by_cases hlt : t < 64
        · have hltI : (t : Int) < 64 := by omega
          obtain ⟨k, hk⟩ : ∃ k, k = t - 16 := ⟨_, rfl⟩
          have c1 : wr.cell? ⟨A + 1 + 1, t - 15, none⟩ = some (.int .u64 ((sch2 bl k).getD (k + 16 - 15) 0)) := by
            rw [cell_of_row _ _ _ _ _ _ HR.out.h2, u64s_getD _ _ (by rw [sch2_len]; omega), ← hk, show k + 16 - 15 = t - 15 by omega]
          have c2 : wr.cell? ⟨A + 1 + 1, t - 2, none⟩ = some (.int .u64 ((sch2 bl k).getD (k + 16 - 2) 0)) := by
            rw [cell_of_row _ _ _ _ _ _ HR.out.h2, u64s_getD _ _ (by rw [sch2_len]; omega), ← hk, show k + 16 - 2 = t - 2 by omega]
          have c3 : wr.cell? ⟨A + 1 + 1, t - 7, none⟩ = some (.int .u64 ((sch2 bl k).getD (k + 16 - 7) 0)) := by
            rw [cell_of_row _ _ _ _ _ _ HR.out.h2, u64s_getD _ _ (by rw [sch2_len]; omega), ← hk, show k + 16 - 7 = t - 7 by omega]
          have c4 : wr.cell? ⟨A + 1 + 1, t - 16, none⟩ = some (.int .u64 ((sch2 bl k).getD (k + 16 - 16) 0)) := by
            rw [cell_of_row _ _ _ _ _ _ HR.out.h2, u64s_getD _ _ (by rw [sch2_len]; omega), show k + 16 - 16 = t - 16 by omega, hk]
          have c0 : wr.cell? ⟨A + 1 + 1, t, none⟩ = some (.int .u64 ((sch2 bl k).getD t 0)) := by
            rw [cell_of_row _ _ _ _ _ _ HR.out.h2, u64s_getD _ _ (by rw [sch2_len]; omega), ← hk]
          have cf : wr.frozen? ⟨A + 1 + 1, t, none⟩ = false := frozen_of_row wr _ t _ _ HR.out.h2
          have HST : Hid (sch2 bl (t + 1 - 16) = (sch2 bl k).set t (mix ((sch2 bl k).getD (k + 16 - 15) 0) ((sch2 bl k).getD (k + 16 - 2) 0) ((sch2 bl k).getD (k + 16 - 7) 0) ((sch2 bl k).getD (k + 16 - 16) 0))) := Lib.hid (by
            rw [show t + 1 - 16 = k + 1 by omega, show t = k + 16 by omega]; rfl)
          have HK2 := Lib.hid hk
          have hx := w32_getD (w32_sch2 bl k) (k + 16 - 15)
          have hy := w32_getD (w32_sch2 bl k) (k + 16 - 2)
          have hp := w32_getD (w32_sch2 bl k) (k + 16 - 7)
          have hq := w32_getD (w32_sch2 bl k) (k + 16 - 16)
          clear hk
          generalize (sch2 bl k).getD (k + 16 - 15) 0 = x at *
          generalize (sch2 bl k).getD (k + 16 - 2) 0 = y at *
          generalize (sch2 bl k).getD (k + 16 - 7) 0 = p at *
          generalize (sch2 bl k).getD (k + 16 - 16) 0 = q at *
          generalize (sch2 bl k).getD t 0 = z at *
          have HMX := Lib.hid (mix_eq (p := p) (q := q) hx hy)
          have hs0 : W32 (bits .xor .u64 (bits .xor .u64 (turns x 7) (turns x 18)) (moves x 3)) := by rw [sig2 hx 7 18 3 (by decide) (by decide)]; exact w32_bits _ _ _
          have hs1 : W32 (bits .xor .u64 (bits .xor .u64 (turns y 17) (turns y 19)) (moves y 10)) := by rw [sig2 hy 17 19 10 (by decide) (by decide)]; exact w32_bits _ _ _
          have H7 : Hid (∀ W, Calls Tryd.prog 92 #[.int .i64 7, .int .u64 x] W fun e w' => e = .returned (.int .u64 (turns x 7)) ∧ W = w') := Lib.hid (fun W => turn_any 7 x (by decide) hx.1 hx.2 W)
          have H18 : Hid (∀ W, Calls Tryd.prog 92 #[.int .i64 18, .int .u64 x] W fun e w' => e = .returned (.int .u64 (turns x 18)) ∧ W = w') := Lib.hid (fun W => turn_any 18 x (by decide) hx.1 hx.2 W)
          have H3 : Hid (∀ W, Calls Tryd.prog 93 #[.int .i64 3, .int .u64 x] W fun e w' => e = .returned (.int .u64 (moves x 3)) ∧ W = w') := Lib.hid (fun W => move_any 3 x (by decide) hx.1 hx.2 W)
          have H17 : Hid (∀ W, Calls Tryd.prog 92 #[.int .i64 17, .int .u64 y] W fun e w' => e = .returned (.int .u64 (turns y 17)) ∧ W = w') := Lib.hid (fun W => turn_any 17 y (by decide) hy.1 hy.2 W)
          have H19 : Hid (∀ W, Calls Tryd.prog 92 #[.int .i64 19, .int .u64 y] W fun e w' => e = .returned (.int .u64 (turns y 19)) ∧ W = w') := Lib.hid (fun W => turn_any 19 y (by decide) hy.1 hy.2 W)
          have H10 : Hid (∀ W, Calls Tryd.prog 93 #[.int .i64 10, .int .u64 y] W fun e w' => e = .returned (.int .u64 (moves y 10)) ∧ W = w') := Lib.hid (fun W => move_any 10 y (by decide) hy.1 hy.2 W)
          generalize turns x 7 = x7 at *
          generalize turns x 18 = x18 at *
          generalize moves x 3 = x3 at *
          generalize turns y 17 = y17 at *
          generalize turns y 19 = y19 at *
          generalize moves y 10 = y10 at *
          have i0 : (0 : Int) ≤ (t : Int) - 15 := by omega
          have i1 : (t : Int) - 15 < 64 := by omega
          have i2 : (0 : Int) ≤ (t : Int) - 2 := by omega
          have i3 : (t : Int) - 2 < 64 := by omega
          have i4 : (0 : Int) ≤ (t : Int) - 7 := by omega
          have i5 : (t : Int) - 7 < 64 := by omega
          have i6 : (0 : Int) ≤ (t : Int) - 16 := by omega
          have i7 : (t : Int) - 16 < 64 := by omega
          have q1 : (7 : Int) ≤ (t : Int) := by omega
          have q2 : (16 : Int) ≤ (t : Int) := by omega
          have q3 : (15 : Int) ≤ (t : Int) := by omega
          have q4 : (2 : Int) ≤ (t : Int) := by omega
          have w0 : IntKind.i64.wrap ((t : Int) - 15) = (t : Int) - 15 := IntWalk.i64_in _ (by omega)
          have w1 : IntKind.i64.wrap ((t : Int) - 2) = (t : Int) - 2 := IntWalk.i64_in _ (by omega)
          have w2 : IntKind.i64.wrap ((t : Int) - 7) = (t : Int) - 7 := IntWalk.i64_in _ (by omega)
          have w3 : IntKind.i64.wrap ((t : Int) - 16) = (t : Int) - 16 := IntWalk.i64_in _ (by omega)
          have n0 : ((t : Int) - 15).toNat = t - 15 := by omega
          have n1 : ((t : Int) - 2).toNat = t - 2 := by omega
          have n2 : ((t : Int) - 7).toNat = t - 7 := by omega
          have n3 : ((t : Int) - 16).toNat = t - 16 := by omega
          go_wp2_with fail
          go_quiet ((first | (go_at_call 92; (first | (with_reducible exact quietS (H7.out _)) | (with_reducible exact quietS (H18.out _)))) | (go_at_call 93; (with_reducible exact quietS (H3.out _)))))
          generalize bits .xor .u64 (bits .xor .u64 x7 x18) x3 = s0 at *
          have HR2 := Lib.hid (HR.out.drewN nq)
          have d2 : (wr.drewN nq).cell? ⟨A + 1 + 1, t - 2, none⟩ = some (.int .u64 y) := c2
          have d3 : (wr.drewN nq).cell? ⟨A + 1 + 1, t - 7, none⟩ = some (.int .u64 p) := c3
          have d4 : (wr.drewN nq).cell? ⟨A + 1 + 1, t - 16, none⟩ = some (.int .u64 q) := c4
          have d0 : (wr.drewN nq).cell? ⟨A + 1 + 1, t, none⟩ = some (.int .u64 z) := c0
          have df : (wr.drewN nq).frozen? ⟨A + 1 + 1, t, none⟩ = false := cf
          clear HR c0 c1 c2 c3 c4 cf H7 H18 H3
          generalize wr.drewN nq = wz at *
          go_wp2_with fail
          go_quiet ((first | (go_at_call 92; (first | (with_reducible exact quietS (H17.out _)) | (with_reducible exact quietS (H19.out _)))) | (go_at_call 93; (with_reducible exact quietS (H10.out _)))))
          generalize bits .xor .u64 (bits .xor .u64 y17 y19) y10 = s1 at *
          have HR3 := Lib.hid (HR2.out.drewN nq)
          have e3 : (wz.drewN nq).cell? ⟨A + 1 + 1, t - 7, none⟩ = some (.int .u64 p) := d3
          have e4 : (wz.drewN nq).cell? ⟨A + 1 + 1, t - 16, none⟩ = some (.int .u64 q) := d4
          have e0 : (wz.drewN nq).cell? ⟨A + 1 + 1, t, none⟩ = some (.int .u64 z) := d0
          have ef : (wz.drewN nq).frozen? ⟨A + 1 + 1, t, none⟩ = false := df
          clear HR2 d0 d2 d3 d4 df H17 H19 H10
          generalize wz.drewN nq = wy at *
          unfold W32 at hs0 hs1 hp hq
          have v1 : IntKind.u64.wrap (s1 + p) = s1 + p := by rw [IntKind.wrap_u64]; omega
          have v2 : IntKind.u64.wrap (s1 + p + s0) = s1 + p + s0 := by rw [IntKind.wrap_u64]; omega
          have v3 : IntKind.u64.wrap (s1 + p + s0 + q) = s1 + p + s0 + q := by rw [IntKind.wrap_u64]; omega
          have v4 : 0 ≤ s1 + p + s0 + q := by omega
          go_wp2_with fail
          go_still_tail 16, (by kernel_rfl)
          go_wp2_with fail
          go_roundw
          case rel => exact ⟨t + 1, by omega, by omega, by go_num, Lib.hid (by rw [HST.out, ← HMX.out, HK2.out]; exact (HR3.out.set t _).drew)⟩
          case measure => simp [intOf]; omega
        · have ht64 : t = 64 := by omega
          subst ht64
          go_wp2_with fail
          go_meet
          exact HR
    case rest =>
      have HM3 := Lib.hid hcut.out
      clear hcut HM2
      have hsz : (u64s (sch2 bl 48)).size = 64 := by rw [u64s_size, sch2_len]
      have HZ := Lib.hid hsz
      clear hsz
      go_wp2_with (first | (refine wpList_load_row (by rfl) 168 (.tmp 3) (by rfl) (A + 1 + 1) (by rfl) 168 (u64s (sch2 bl 48)) (0, 0) _ HM3.out.h2 Tryd.underlying168 rfl (by rw [HZ.out]; kernel_rfl) ?_) | (refine wpList_store_row (by rfl) 168 (.tmp 2) (.tmp 85) (by rfl) (A + 1) (u64s (sch2 bl 48)) (by rfl) (by rfl) 168 _ HM3.out.h1 (by rw [HZ.out]; kernel_rfl) (by rw [HZ.out, u64s_size, List.length_replicate]) (one_u64s _) ?_))
      obtain ⟨r1, r2⟩ := HM3.out.res (u64s (sch2 bl 48))
      exact bodyPost_ret (results_cell_row rfl _ _ (A + 1) 168 _ (0, 0) _ rfl r2 Tryd.underlying168 rfl (by rw [HZ.out]; kernel_rfl)) rfl ⟨rfl, r1⟩
end Go.Proofs.YtkceaepbjdfccaaDoor
