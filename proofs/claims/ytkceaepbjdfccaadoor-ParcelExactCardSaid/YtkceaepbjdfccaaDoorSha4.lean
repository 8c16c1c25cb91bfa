/-
sha.New, (*sha.Hash).Copy.
-/
import Derived.Test.YtkceaepbjdfccaaDoorSha3
namespace Go.Proofs.YtkceaepbjdfccaaDoor
open Go.RowKit
theorem eight (l : List Int) (h : l.length = 8) : ∃ a b c d e f g i, l = [a, b, c, d, e, f, g, i] := by
  match l, h with
  | [a, b, c, d, e, f, g, i], _ => exact ⟨a, b, c, d, e, f, g, i, rfl⟩
def hs0 (bg : List Int) : Hs := ⟨bg, List.replicate 64 0, 0⟩
theorem hs0_ok {bg : List Int} (h : bg.length = 8) : (hs0 bg).ok := ⟨h, by simp [hs0]⟩
set_option maxRecDepth 100000 in
set_option maxHeartbeats 1000000 in
theorem new_any (bg : List Int) (hbg : bg.length = 8) (w : World) {T : TypeId} (fr : Nat × Nat) (hg : w.heap[0]? = some (.cells (u32s bg) T fr)) :
    Calls Tryd.prog 34 #[] w fun e w' => e = .returned (.pointer (some ⟨w.heap.size, 0, none⟩)) ∧ Kp [] w w' ∧ HashAt w' w.heap.size (hs0 bg) ∧ w.heap.size < w'.heap.size := by
  have HO := Lib.hid (hs0_ok hbg)
  obtain ⟨a, b, c, d, e, f, g, i, rfl⟩ := eight bg hbg
  have c0 : w.cell? ⟨0, 0, none⟩ = some (.int .u32 a) := by rw [cell_of_row _ _ _ _ _ _ hg]; rfl
  have c1 : w.cell? ⟨0, 1, none⟩ = some (.int .u32 b) := by rw [cell_of_row _ _ _ _ _ _ hg]; rfl
  have c2 : w.cell? ⟨0, 2, none⟩ = some (.int .u32 c) := by rw [cell_of_row _ _ _ _ _ _ hg]; rfl
  have c3 : w.cell? ⟨0, 3, none⟩ = some (.int .u32 d) := by rw [cell_of_row _ _ _ _ _ _ hg]; rfl
  have c4 : w.cell? ⟨0, 4, none⟩ = some (.int .u32 e) := by rw [cell_of_row _ _ _ _ _ _ hg]; rfl
  have c5 : w.cell? ⟨0, 5, none⟩ = some (.int .u32 f) := by rw [cell_of_row _ _ _ _ _ _ hg]; rfl
  have c6 : w.cell? ⟨0, 6, none⟩ = some (.int .u32 g) := by rw [cell_of_row _ _ _ _ _ _ hg]; rfl
  have c7 : w.cell? ⟨0, 7, none⟩ = some (.int .u32 i) := by rw [cell_of_row _ _ _ _ _ _ hg]; rfl
  clear hg hbg
  go_enter Tryd.func34, Tryd.ntmps34
  go_wp2_with fail
  go_ret
  exact ⟨rfl, (Kp.refl _ w).alloc _, ⟨heap_alloc_new w _, HO.out⟩, by simp⟩
set_option maxRecDepth 100000 in
set_option maxHeartbeats 1000000 in
theorem copy_any (g : Nat) (h : Hs) (w : World) (hw : HashAt w g h) :
    Calls Tryd.prog 60 #[.pointer (some ⟨g, 0, none⟩)] w fun e w' => e = .returned (.pointer (some ⟨w.heap.size, 0, none⟩)) ∧ Kp [] w w' ∧ HashAt w' w.heap.size h ∧ w.heap.size < w'.heap.size := by
  have HW := Lib.hid hw
  have HZ : Hid (h.cl.toArray.size = 73) := Lib.hid (by rw [List.size_toArray]; exact Hs.cl_len hw.ok)
  have HV : Hid (h.cl.toArray.all (·.oneCell') = true) := Lib.hid (all_oneCell_toArray (Hs.cl_one h))
  clear hw
  go_enter Tryd.func60, Tryd.ntmps60
  go_wp2_with (first
    | (refine wpList_load_row rfl 129 (.tmp 5) rfl g rfl 129 h.cl.toArray (0, 0) _ HW.out.hp Tryd.underlying129 rfl (by rw [HZ.out]; kernel_rfl) ?_)
    | (refine wpList_store_row rfl 129 (.tmp 3) (.tmp 6) rfl w.heap.size h.cl.toArray rfl rfl 129 _ (heap_alloc_new w _) (by rw [HZ.out]; kernel_rfl) (by rw [HZ.out]; rfl) HV.out ?_))
  go_ret
  exact ⟨rfl, ((Kp.refl [] w).alloc _).trans (kp_setRow _ w.heap.size h.cl.toArray) (fun m hm => by rw [List.mem_singleton] at hm; subst hm; exact .inr (Nat.le_refl _)), ⟨setRow_heap _ w.heap.size _ _ _ _ (heap_alloc_new w _), HW.out.ok⟩, by simp⟩
end Go.Proofs.YtkceaepbjdfccaaDoor
