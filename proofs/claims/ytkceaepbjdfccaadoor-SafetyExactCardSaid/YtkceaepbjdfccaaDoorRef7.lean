/-
letheref02.bytesOf.
-/
import Derived.Test.YtkceaepbjdfccaaDoorRef6
namespace Go.Proofs.YtkceaepbjdfccaaDoor
open Go.RowKit
/-- what lies where, while a state is written as bytes -/
structure OM (w W : World) (A : Nat) (st ws : List Int) : Prop where
  k : Kp [] w W
  hA : w.heap.size ≤ A
  h0 : W.heap[A]? = some (.cells (u32s st) 126 (0, 0))
  h1 : W.heap[A + 1]? = some (.cells (u8s (List.replicate 32 0)) 22 (0, 0))
  h2 : W.heap[A + 2]? = some (.cells (u8s ws) 22 (0, 0))
theorem OM.set {w W : World} {A : Nat} {st ws : List Int} (h : OM w W A st ws) (j : Nat) (x : Int) : OM w (W.setCell ⟨A + 2, j, none⟩ (.int .u8 x)) A st (ws.set j x) := by
  have k : Kp [A + 2] W (W.setCell ⟨A + 2, j, none⟩ (.int .u8 x)) := (Kp.refl _ W).setCell (.inl (by simp)) _
  have hA := h.hA
  refine ⟨h.k.trans k (fun m hm => by rw [List.mem_singleton] at hm; subst hm; exact .inr (by omega)), hA, k.heap h.h0 (by simp), k.heap h.h1 (by simp), ?_⟩
  rw [← u8s_set]
  exact heap_setCell_same W _ j _ _ (.int .u8 x) h.h2
theorem OM.res {w W : World} {A : Nat} {st ws : List Int} (h : OM w W A st ws) (cs : Array Value) : Kp [] w (W.setRow (A + 1) cs) ∧ (W.setRow (A + 1) cs).heap[A + 1]? = some (.cells cs 22 (0, 0)) := by
  have hA := h.hA
  have k : Kp [A + 1] W (W.setRow (A + 1) cs) := ⟨rfl, rfl, rfl, by simp, fun j _ hn => setRow_other _ _ _ _ (by simpa using hn)⟩
  exact ⟨h.k.trans k (fun m hm => by rw [List.mem_singleton] at hm; subst hm; exact .inr (by omega)), setRow_heap W _ _ _ _ _ h.h1⟩
set_option maxRecDepth 100000 in
set_option maxHeartbeats 1000000 in
theorem bytesOf_any (st : List Int) (hst : st.length = 8) (hs32 : ∀ x ∈ st, W32 x) (w : World) :
    Calls Tryd.prog 87 #[.agg (u32s st)] w fun e w' => e = .returned (.agg (u8s (outw st 8))) ∧ Kp [] w w' := by
  have HS := Lib.hid hst
  have HS32 := Lib.hid hs32
  clear hst hs32
  have h0 := three_rows w (.cells (u32s st) 126) (.cells (u8s (List.replicate 32 0)) 22) (.cells (u8s (List.replicate 32 0)) 22)
  have k0 : Kp [] w (((w.alloc (.cells (u32s st) 126)).alloc (.cells (u8s (List.replicate 32 0)) 22)).alloc (.cells (u8s (List.replicate 32 0)) 22)) := (((Kp.refl [] w).alloc _).alloc _).alloc _
  have HM : Hid (OM w (((w.alloc (.cells (u32s st) 126)).alloc (.cells (u8s (List.replicate 32 0)) 22)).alloc (.cells (u8s (List.replicate 32 0)) 22)) w.heap.size st (outw st 0)) := Lib.hid
    ⟨k0, Nat.le_refl _, h0.1, h0.2.1, h0.2.2⟩
  clear h0 k0
  go_enter Tryd.func87, Tryd.ntmps87
  go_upto_block 0 with fail
  generalize hA : w.heap.size = A at *
  clear hA
  have HM : Hid (OM w _ A st (outw st 0)) := HM
  go_wp2_with fail
  go_loopw [4] (fun i' wr => ∃ k : Nat, k ≤ 8 ∧ i' = .int .i64 k ∧ Hid (OM w wr A st (outw st k))) (fun i' _ => 8 - (intOf i').toNat)
  case atStart => exact ⟨0, Nat.zero_le _, rfl, HM⟩
  case round =>
    clear HM
    obtain ⟨k, hk, rfl, HR⟩ := hrel
    by_cases hlt : k < 8
    · have hltI : (k : Int) < 8 := by omega
      have c0 : wr.cell? ⟨A, k, none⟩ = some (.int .u32 (st.getD k 0)) := by
        rw [cell_of_row _ _ _ _ _ _ HR.out.h0, u32s_getD _ _ (by rw [HS.out]; omega)]
      have HX := Lib.hid (w32_getD HS32.out k)
      have HL4 := Lib.hid (last4_outw st k)
      have HLL := Lib.hid (outw_len st k)
      have HR : Hid (OM w wr A st (last4 (outw st k) k (st.getD k 0) 0)) := HR
      generalize st.getD k 0 = v at *
      generalize outw st k = l at *
      go_wp2_with fail
      go_loopw [5, 6] (fun x' i' wv => ∃ j : Nat, j ≤ 4 ∧ i' = .int .i64 (3 - (j : Int)) ∧ x' = .int .u32 (v / 256 ^ j) ∧ Hid (OM w wv A st (last4 l k v j))) (fun _ i' _ => (intOf i' + 1).toNat)
      case atStart => exact ⟨0, Nat.zero_le _, rfl, by simp, HR⟩
      case round =>
        clear HR c0
        obtain ⟨j, hj, rfl, rfl, HR⟩ := hrel
        by_cases hlj : j < 4
        · have g0 : (0 : Int) ≤ 3 - (j : Int) := by omega
          have HST : Hid (last4 l k v (j + 1) = (last4 l k v j).set (4 * k + (3 - j)) (v / 256 ^ j % 256)) := Lib.hid rfl
          have HDM := Lib.hid (div_more v j)
          have c0 : wr.cell? ⟨A + 2, 4 * k + (3 - j), none⟩ = some (.int .u8 ((last4 l k v j).getD (4 * k + (3 - j)) 0)) := by
            rw [cell_of_row _ _ _ _ _ _ HR.out.h2, u8s_getD _ _ (by rw [last4_len, HLL.out]; omega)]
          have cf : wr.frozen? ⟨A + 2, 4 * k + (3 - j), none⟩ = false := frozen_of_row wr _ _ _ _ HR.out.h2
          have w0 : IntKind.i64.wrap (4 * (k : Int)) = 4 * (k : Int) := IntWalk.i64_in _ (by omega)
          have w1 : IntKind.i64.wrap (4 * (k : Int) + (3 - (j : Int))) = 4 * (k : Int) + (3 - (j : Int)) := IntWalk.i64_in _ (by omega)
          have w2 : IntKind.i64.wrap (3 - (j : Int) - 1) = 3 - (j : Int) - 1 := IntWalk.i64_in _ (by omega)
          have n1 : (4 * (k : Int) + (3 - (j : Int))).toNat = 4 * k + (3 - j) := by omega
          have n2 : (0 : Int) ≤ 4 * (k : Int) + (3 - (j : Int)) := by omega
          have n3 : 4 * (k : Int) + (3 - (j : Int)) < 32 := by omega
          have hv0 : W32 (v / 256 ^ j) := by
            have h := HX.out
            have hp : (0 : Int) < 256 ^ j := Int.pow_pos (by decide)
            exact ⟨Int.ediv_nonneg h.1 (Int.le_of_lt hp), by have := Int.ediv_le_self (256 ^ j) h.1; have := h.2; omega⟩
          generalize (last4 l k v j).getD (4 * k + (3 - j)) 0 = z at *
          generalize v / 256 ^ j = y at *
          unfold W32 at hv0
          have v1 : IntKind.u8.wrap (y % 256) = y % 256 := by rw [IntKind.wrap_u8]; omega
          have v2 : IntKind.u32.wrap (y / 256) = y / 256 := by rw [IntKind.wrap_u32]; omega
          go_wp2_with fail
          go_roundw
          case rel => exact ⟨j + 1, by omega, by go_num, by rw [← HDM.out], Lib.hid (by rw [HST.out]; exact HR.out.set _ _)⟩
          case measure => simp [intOf]; omega
        · have hj4 : j = 4 := by omega
          subst hj4
          go_wp2_with fail
          go_roundw
          case rel => exact ⟨k + 1, by omega, by go_num, Lib.hid (by rw [← HL4.out]; exact HR.out)⟩
          case measure => simp [intOf]; omega
    · have hk8 : k = 8 := by omega
      subst hk8
      have hsz : (u8s (outw st 8)).size = 32 := by rw [u8s_size, outw_len]
      have HZ := Lib.hid hsz
      clear hsz
      go_wp2_with (first | (refine wpList_load_row (by rfl) 22 (.tmp 3) (by rfl) (A + 2) (by rfl) 22 (u8s (outw st 8)) (0, 0) _ HR.out.h2 Tryd.underlying22 rfl (by rw [HZ.out]; kernel_rfl) ?_) | (refine wpList_store_row (by rfl) 22 (.tmp 2) (.tmp 28) (by rfl) (A + 1) (u8s (outw st 8)) (by rfl) (by rfl) 22 _ HR.out.h1 (by rw [HZ.out]; kernel_rfl) (by rw [HZ.out, u8s_size, List.length_replicate]) (one_u8s _) ?_))
      obtain ⟨r1, r2⟩ := HR.out.res (u8s (outw st 8))
      exact bodyPost_ret (results_cell_row rfl _ _ (A + 1) 22 _ (0, 0) _ rfl r2 Tryd.underlying22 rfl (by rw [HZ.out]; kernel_rfl)) rfl ⟨rfl, r1⟩
end Go.Proofs.YtkceaepbjdfccaaDoor
