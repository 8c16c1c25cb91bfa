/-
state.first, state.Check.
-/
import Derived.Test.YtkceaepbjdfccaaSt3
import Derived.Deep.RegionHeld3
import Derived.Deep.RegionLaw
namespace Go.Proofs.Ytkceaepbjdfccaa
open Go.RowKit
theorem run_first32 (W : World) (g : Nat) :
    (Instr.sliceAt 43 (.pointer (some ⟨g, 279, none⟩)) none (some (.int .i64 32)) none).run Try.prog W = .ok (.slice (some ⟨g, 279, none⟩) 32 64) W := by
  have ht : Try.prog.underlying 43 = some (.array (Try.prog.arrayLen 43) (Try.prog.elem 43)) := by kernel_rfl
  have hl : Try.prog.arrayLen 43 = 64 := by kernel_rfl
  have hs : (sizeOf (Try.prog.elem 43)).run Try.prog W = .ok 1 W := by kernel_rfl
  rw [run_sliceAt_array_h W _ _ ht .i64 32 (by decide) (by rw [hl]; decide), hs, hl]
  rfl
theorem run_arr32 (W : World) (a : Addr) (c : Nat) : (Instr.arrayAt 37 (.slice (some a) 32 c)).run Try.prog W = .ok (.pointer (some a)) W := by
  unfold Instr.arrayAt
  simp only [Sem.run_bind, run_underlying Try.underlying37, Result.andThen_ok]
  rfl
theorem kp_setRow1 (w : World) (g : Nat) (cs : Array Value) : Kp [g] w (w.setRow g cs) := ⟨rfl, rfl, rfl, by simp, fun j _ hn => setRow_other _ _ _ _ (by simpa using hn)⟩
set_option maxRecDepth 100000 in
set_option maxHeartbeats 1000000 in
theorem first_any (S : St) (hS : S.ok) (w : World) :
    Calls Try.prog 49 #[.agg S.cl.toArray] w fun e w' => e = .returned (.agg (iv (S.bind.take 32)).toArray) ∧ Kp [] w w' := by
  have HO := Lib.hid hS
  obtain ⟨w0, hw0⟩ : ∃ w0, w0 = (w.alloc (.cells S.cl.toArray 45)).alloc (.cells (iv z32).toArray 37) := ⟨_, rfl⟩
  have H0 : Hid (Kp [] w w0 ∧ StAt w0 w.heap.size S ∧ w0.heap[w.heap.size + 1]? = some (.cells (iv z32).toArray 37 (0, 0))) := Lib.hid (by
    rw [hw0]
    exact ⟨((Kp.refl [] w).alloc _).alloc _, ⟨heap_alloc2_old w _ _, hS⟩, heap_alloc2_new w _ _⟩)
  have hsl := fun W => run_first32 W w.heap.size
  have har := fun W => run_arr32 W ⟨w.heap.size, 279, none⟩ 64
  have HZ : Hid ((iv (S.bind.take 32)).toArray.size = 32) := Lib.hid (by rw [List.size_toArray, iv_length, List.length_take, hS.lb]; rfl)
  have HV : Hid ((iv (S.bind.take 32)).toArray.all (·.oneCell') = true) := Lib.hid (all_oneCell_toArray (iv_one _))
  go_enter Try.func49, Try.ntmps49
  go_wp2_with (first
    | (refine wpList_load_mid (by rfl) 37 (.tmp 5) (by rfl) w.heap.size 279 (by rfl) (iv (S.bind.take 32)) _ (by have h := H0.out.2.1.first; rw [hw0] at h; exact h) Try.underlying37 rfl (by rw [iv_length, List.length_take, HO.out.lb]; kernel_rfl) ?_)
    | (refine wpList_store_row (by rfl) 37 (.tmp 2) (.tmp 6) (by rfl) (w.heap.size + 1) (iv (S.bind.take 32)).toArray (by rfl) (by rfl) 37 _ (heap_alloc2_new w _ _) (by rw [HZ.out]; kernel_rfl) (by rw [HZ.out]; rfl) HV.out ?_))
  have h0 := H0.out.2.2
  rw [hw0] at h0
  have r2 := setRow_heap _ (w.heap.size + 1) _ (iv (S.bind.take 32)).toArray _ _ h0
  have k0 := H0.out.1
  rw [hw0] at k0
  have r1 := k0.trans (kp_setRow1 _ (w.heap.size + 1) (iv (S.bind.take 32)).toArray) (fun m hm => by rw [List.mem_singleton] at hm; subst hm; exact .inr (by omega))
  exact bodyPost_ret (results_cell_row rfl _ _ (w.heap.size + 1) 37 _ (0, 0) _ rfl r2 Try.underlying37 rfl (by rw [HZ.out]; kernel_rfl)) rfl ⟨rfl, r1⟩
end Go.Proofs.Ytkceaepbjdfccaa
