/-
letheref02.At, letheref02.Begin.
-/
import Derived.Test.YtkceaepbjdfccaaDoorRef4
import Derived.Test.YtkceaepbjdfccaaDoorSha7
namespace Go.Proofs.YtkceaepbjdfccaaDoor
open Go.RowKit
/-- n cells, the first k of them laid by f -/
def layN (n : Nat) (f : Nat → Int) : Nat → List Int
  | 0 => List.replicate n 0
  | k + 1 => (layN n f k).set k (f k)
theorem layN_len (n : Nat) (f : Nat → Int) : ∀ k, (layN n f k).length = n
  | 0 => by simp [layN]
  | k + 1 => by rw [layN, List.length_set]; exact layN_len n f k
theorem layN_get (n : Nat) (f : Nat → Int) : ∀ k, k ≤ n → ∀ j, j < n → (layN n f k)[j]? = some (if j < k then f j else 0)
  | 0, _, j, hj => by simp [layN, hj]
  | k + 1, hk, j, hj => by
    rw [layN, List.getElem?_set]
    by_cases h : k = j
    · subst h
      rw [if_pos rfl, if_pos (by rw [layN_len]; omega), if_pos (by omega)]
    · rw [if_neg h, layN_get n f k (by omega) j hj]
      by_cases h2 : j < k
      · rw [if_pos h2, if_pos (by omega)]
      · rw [if_neg h2, if_neg (by omega)]
theorem layN_all (n : Nat) (f : Nat → Int) : layN n f n = (List.range n).map f := by
  apply List.ext_getElem?
  intro j
  by_cases hj : j < n
  · rw [layN_get n f n (Nat.le_refl _) j hj, if_pos hj, List.getElem?_map, List.getElem?_range hj]; rfl
  · rw [List.getElem?_eq_none (by rw [layN_len]; omega), List.getElem?_eq_none (by simp; omega)]
/-- what lies where, while an array of bytes is laid -/
structure LM (w W : World) (A : Nat) (ws : List Int) : Prop where
  k : Kp [] w W
  hA : w.heap.size ≤ A
  h1 : W.heap[A]? = some (.cells (u8s (List.replicate 64 0)) 127 (0, 0))
  h2 : W.heap[A + 1]? = some (.cells (u8s ws) 127 (0, 0))
theorem LM.set {w W : World} {A : Nat} {ws : List Int} (h : LM w W A ws) (j : Nat) (x : Int) : LM w (W.setCell ⟨A + 1, j, none⟩ (.int .u8 x)) A (ws.set j x) := by
  have k : Kp [A + 1] W (W.setCell ⟨A + 1, j, none⟩ (.int .u8 x)) := (Kp.refl _ W).setCell (.inl (by simp)) _
  have hA := h.hA
  refine ⟨h.k.trans k (fun m hm => by rw [List.mem_singleton] at hm; subst hm; exact .inr (by omega)), hA, k.heap h.h1 (by simp), ?_⟩
  rw [← u8s_set]
  exact heap_setCell_same W _ j _ _ (.int .u8 x) h.h2
theorem LM.res {w W : World} {A : Nat} {ws : List Int} (h : LM w W A ws) (cs : Array Value) : Kp [] w (W.setRow A cs) ∧ (W.setRow A cs).heap[A]? = some (.cells cs 127 (0, 0)) := by
  have hA := h.hA
  have k : Kp [A] W (W.setRow A cs) := ⟨rfl, rfl, rfl, by simp, fun j _ hn => setRow_other _ _ _ _ (by simpa using hn)⟩
  exact ⟨h.k.trans k (fun m hm => by rw [List.mem_singleton] at hm; subst hm; exact .inr (by omega)), setRow_heap W _ _ _ _ _ h.h1⟩
/-- block i of m -/
def blk (m : List Int) (i : Nat) : List Int := (m.drop (64 * i)).take 64
theorem blk_lay (m : List Int) (i : Nat) (h : 64 * i + 64 ≤ m.length) : layN 64 (fun k => m.getD (64 * i + k) 0) 64 = blk m i := by
  rw [layN_all]
  apply List.ext_getElem?
  intro j
  unfold blk
  by_cases hj : j < 64
  · rw [List.getElem?_map, List.getElem?_range hj, List.getElem?_take, if_pos hj, List.getElem?_drop, List.getElem?_eq_getElem (by omega)]
    simp only [Option.map_some, List.getD_eq_getElem?_getD]
    rw [List.getElem?_eq_getElem (by omega)]; rfl
  · rw [List.getElem?_eq_none (by simp; omega), List.getElem?_eq_none (by simp; omega)]
set_option maxRecDepth 100000 in
set_option maxHeartbeats 1000000 in
theorem at_any (m : List Int) (v : Value) (i : Nat) (w : World) (hv : Rd w v (iv m)) (hi : 64 * i + 64 ≤ m.length) (hm : m.length ≤ 1125899906842624) :
    Calls Tryd.prog 86 #[v, .int .i64 i] w fun e w' => e = .returned (.agg (u8s (blk m i))) ∧ Kp [] w w' := by
  obtain ⟨ao, cap, rfl⟩ := hv.form
  rw [show (iv m).length = m.length from iv_length m] at hv ⊢
  have HV := Lib.hid hv
  have HBL := Lib.hid (blk_lay m i hi)
  generalize blk m i = res at *
  clear hv
  go_enter Tryd.func86, Tryd.ntmps86
  go_upto_block 0 with fail
  have HM : Hid (LM w ((w.alloc (.cells (u8s (List.replicate 64 0)) 127)).alloc (.cells (u8s (List.replicate 64 0)) 127)) w.heap.size (layN 64 (fun k => m.getD (64 * i + k) 0) 0)) := Lib.hid
    ⟨((Kp.refl [] w).alloc _).alloc _, Nat.le_refl _, heap_alloc2_old w _ _, heap_alloc2_new w _ _⟩
  generalize hA : w.heap.size = A at *
  clear hA
  go_wp2_with fail
  go_loopw [6] (fun i' wr => ∃ k : Nat, k ≤ 64 ∧ i' = .int .i64 k ∧ Hid (LM w wr A (layN 64 (fun k => m.getD (64 * i + k) 0) k))) (fun i' _ => 64 - (intOf i').toNat)
  case atStart => exact ⟨0, Nat.zero_le _, rfl, HM⟩
  case round =>
    obtain ⟨k, hk, rfl, HR⟩ := hrel
    by_cases hlt : k < 64
    · have hltI : (k : Int) < 64 := by omega
      have hq : 64 * i + k < m.length := by omega
      obtain ⟨gb, goff, hgao, hx, hgc⟩ := (HV.out.kp0 HR.out.k).at hq
      subst hgao
      have hge : (iv m)[64 * i + k]'(by rw [iv_length]; omega) = .int .u8 (m.getD (64 * i + k) 0) := by
        simp only [iv, List.getElem_map]
        rw [List.getD_eq_getElem?_getD, List.getElem?_eq_getElem (by omega)]; rfl
      rw [hge] at hgc
      have HST : Hid (layN 64 (fun k => m.getD (64 * i + k) 0) (k + 1) = (layN 64 (fun k => m.getD (64 * i + k) 0) k).set k (m.getD (64 * i + k) 0)) := Lib.hid rfl
      have c0 : wr.cell? ⟨A + 1, k, none⟩ = some (.int .u8 ((layN 64 (fun k => m.getD (64 * i + k) 0) k).getD k 0)) := by
        rw [cell_of_row _ _ _ _ _ _ HR.out.h2, u8s_getD _ _ (by rw [layN_len]; omega)]
      have cf : wr.frozen? ⟨A + 1, k, none⟩ = false := frozen_of_row wr _ k _ _ HR.out.h2
      clear hge
      generalize (layN 64 (fun k => m.getD (64 * i + k) 0) k).getD k 0 = z at *
      generalize hxx : m.getD (64 * i + k) 0 = x at *
      clear hxx
      have i0 : (0 : Int) ≤ 64 * (i : Int) + (k : Int) := by omega
      have i1 : 64 * (i : Int) + (k : Int) < (m.length : Int) := by omega
      have w0 : IntKind.i64.wrap (64 * (i : Int)) = 64 * (i : Int) := IntWalk.i64_in _ (by omega)
      have w1 : IntKind.i64.wrap (64 * (i : Int) + (k : Int)) = 64 * (i : Int) + (k : Int) := IntWalk.i64_in _ (by omega)
      have n1 : (64 * (i : Int) + (k : Int)).toNat = 64 * i + k := by omega
      go_wp2_with fail
      go_roundw
      case rel => exact ⟨k + 1, by omega, by go_num, Lib.hid (by rw [HST.out]; exact HR.out.set k x)⟩
      case measure => simp [intOf]; omega
    · have hk64 : k = 64 := by omega
      subst hk64
      have HR2 : Hid (LM w wr A res) := Lib.hid (by rw [← HBL.out]; exact HR.out)
      have hsz : (u8s res).size = 64 := by rw [u8s_size, ← HBL.out, layN_len]
      have HZ := Lib.hid hsz
      clear hsz HR
      go_wp2_with (first | (refine wpList_load_row (by rfl) 127 (.tmp 5) (by rfl) (A + 1) (by rfl) 127 (u8s res) (0, 0) _ HR2.out.h2 Tryd.underlying127 rfl (by rw [HZ.out]; kernel_rfl) ?_) | (refine wpList_store_row (by rfl) 127 (.tmp 4) (.tmp 20) (by rfl) A (u8s res) (by rfl) (by rfl) 127 _ HR2.out.h1 (by rw [HZ.out]; kernel_rfl) (by rw [HZ.out, u8s_size, List.length_replicate]) (one_u8s _) ?_))
      obtain ⟨r1, r2⟩ := HR2.out.res (u8s res)
      exact bodyPost_ret (results_cell_row rfl _ _ A 127 _ (0, 0) _ rfl r2 Tryd.underlying127 rfl (by rw [HZ.out]; kernel_rfl)) rfl ⟨rfl, r1⟩
/-- what lies where, while eight words are laid -/
structure EM (w W : World) (A : Nat) (ws : List Int) : Prop where
  k : Kp [] w W
  hA : w.heap.size ≤ A
  h1 : W.heap[A]? = some (.cells (u32s (List.replicate 8 0)) 126 (0, 0))
  h2 : W.heap[A + 1]? = some (.cells (u32s ws) 126 (0, 0))
theorem EM.set {w W : World} {A : Nat} {ws : List Int} (h : EM w W A ws) (j : Nat) (x : Int) : EM w (W.setCell ⟨A + 1, j, none⟩ (.int .u32 x)) A (ws.set j x) := by
  have k : Kp [A + 1] W (W.setCell ⟨A + 1, j, none⟩ (.int .u32 x)) := (Kp.refl _ W).setCell (.inl (by simp)) _
  have hA := h.hA
  refine ⟨h.k.trans k (fun m hm => by rw [List.mem_singleton] at hm; subst hm; exact .inr (by omega)), hA, k.heap h.h1 (by simp), ?_⟩
  rw [← u32s_set]
  exact heap_setCell_same W _ j _ _ (.int .u32 x) h.h2
theorem EM.res {w W : World} {A : Nat} {ws : List Int} (h : EM w W A ws) (cs : Array Value) : Kp [] w (W.setRow A cs) ∧ (W.setRow A cs).heap[A]? = some (.cells cs 126 (0, 0)) := by
  have hA := h.hA
  have k : Kp [A] W (W.setRow A cs) := ⟨rfl, rfl, rfl, by simp, fun j _ hn => setRow_other _ _ _ _ (by simpa using hn)⟩
  exact ⟨h.k.trans k (fun m hm => by rw [List.mem_singleton] at hm; subst hm; exact .inr (by omega)), setRow_heap W _ _ _ _ _ h.h1⟩
set_option maxRecDepth 100000 in
set_option maxHeartbeats 1000000 in
theorem begin_any (bg : List Int) (hb : bg.length = 8) (hb32 : ∀ x ∈ bg, W32 x) (w : World) {T : TypeId} (fr : Nat × Nat) (hg : w.heap[2]? = some (.cells (u64s bg) T fr)) :
    Calls Tryd.prog 84 #[] w fun e w' => e = .returned (.agg (u32s bg)) ∧ Kp [] w w' := by
  have HG : Hid (∀ w', Kp [] w w' → w'.heap[2]? = some (.cells (u64s bg) T fr)) := Lib.hid (fun w' k => k.heap hg (by simp))
  have HBL := Lib.hid (show layN 8 (fun k => bg.getD k 0) 8 = bg from by
    rw [layN_all]
    apply List.ext_getElem?
    intro j
    by_cases hj : j < 8
    · rw [List.getElem?_map, List.getElem?_range hj, List.getElem?_eq_getElem (by omega)]
      simp only [Option.map_some, List.getD_eq_getElem?_getD]
      rw [List.getElem?_eq_getElem (by omega)]; rfl
    · rw [List.getElem?_eq_none (by simp; omega), List.getElem?_eq_none (by omega)])
  have HL := Lib.hid hb
  have H32 := Lib.hid hb32
  clear hb hb32 hg
  go_enter Tryd.func84, Tryd.ntmps84
  go_upto_block 0 with fail
  have HM : Hid (EM w ((w.alloc (.cells (u32s (List.replicate 8 0)) 126)).alloc (.cells (u32s (List.replicate 8 0)) 126)) w.heap.size (layN 8 (fun k => bg.getD k 0) 0)) := Lib.hid
    ⟨((Kp.refl [] w).alloc _).alloc _, Nat.le_refl _, heap_alloc2_old w _ _, heap_alloc2_new w _ _⟩
  generalize hA : w.heap.size = A at *
  clear hA
  go_wp2_with fail
  go_loopw [2] (fun i' wr => ∃ k : Nat, k ≤ 8 ∧ i' = .int .i64 k ∧ Hid (EM w wr A (layN 8 (fun k => bg.getD k 0) k))) (fun i' _ => 8 - (intOf i').toNat)
  case atStart => exact ⟨0, Nat.zero_le _, rfl, HM⟩
  case round =>
    obtain ⟨k, hk, rfl, HR⟩ := hrel
    by_cases hlt : k < 8
    · have hltI : (k : Int) < 8 := by omega
      have hgc : wr.cell? ⟨2, k, none⟩ = some (.int .u64 (bg.getD k 0)) := by
        rw [cell_of_row _ _ _ _ _ _ (HG.out wr HR.out.k), u64s_getD _ _ (by rw [HL.out]; omega)]
      have HST : Hid (layN 8 (fun k => bg.getD k 0) (k + 1) = (layN 8 (fun k => bg.getD k 0) k).set k (bg.getD k 0)) := Lib.hid rfl
      have c0 : wr.cell? ⟨A + 1, k, none⟩ = some (.int .u32 ((layN 8 (fun k => bg.getD k 0) k).getD k 0)) := by
        rw [cell_of_row _ _ _ _ _ _ HR.out.h2, u32s_getD _ _ (by rw [layN_len]; omega)]
      have cf : wr.frozen? ⟨A + 1, k, none⟩ = false := frozen_of_row wr _ k _ _ HR.out.h2
      have hx := w32_getD H32.out k
      generalize (layN 8 (fun k => bg.getD k 0) k).getD k 0 = z at *
      generalize hxx : bg.getD k 0 = x at *
      clear hxx
      unfold W32 at hx
      have v1 : IntKind.u32.wrap x = x := by rw [IntKind.wrap_u32]; omega
      have v2 : x % 4294967296 = x := by omega
      go_wp2_with fail
      go_roundw
      case rel => exact ⟨k + 1, by omega, by go_num, Lib.hid (by rw [HST.out]; exact HR.out.set k x)⟩
      case measure => simp [intOf]; omega
    · have hk8 : k = 8 := by omega
      subst hk8
      have HR2 : Hid (EM w wr A bg) := Lib.hid (by have h := HR.out; rw [HBL.out] at h; exact h)
      have hsz : (u32s bg).size = 8 := by rw [u32s_size, HL.out]
      have HZ := Lib.hid hsz
      clear hsz HR
      go_wp2_with (first | (refine wpList_load_row (by rfl) 126 (.tmp 1) (by rfl) (A + 1) (by rfl) 126 (u32s bg) (0, 0) _ HR2.out.h2 Tryd.underlying126 rfl (by rw [HZ.out]; kernel_rfl) ?_) | (refine wpList_store_row (by rfl) 126 (.tmp 0) (.tmp 13) (by rfl) A (u32s bg) (by rfl) (by rfl) 126 _ HR2.out.h1 (by rw [HZ.out]; kernel_rfl) (by rw [HZ.out, u32s_size, List.length_replicate]) (one_u32s _) ?_))
      obtain ⟨r1, r2⟩ := HR2.out.res (u32s bg)
      exact bodyPost_ret (results_cell_row rfl _ _ A 126 _ (0, 0) _ rfl r2 Tryd.underlying126 rfl (by rw [HZ.out]; kernel_rfl)) rfl ⟨rfl, r1⟩
end Go.Proofs.YtkceaepbjdfccaaDoor
