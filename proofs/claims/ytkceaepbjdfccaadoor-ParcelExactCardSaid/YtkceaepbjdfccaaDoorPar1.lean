/-
parcel.named, parcel.marked.
-/
import Derived.Test.YtkceaepbjdfccaaDoorDRead2
import Derived.Test.YtkceaepbjdfccaaDoorHalf2
namespace Go.Proofs.YtkceaepbjdfccaaDoor
open Go.RowKit
/-- a peer's error -/
def peerErr (n : Nat) : Int := if n = 0 ∨ 16 < n then 212 else 0
set_option maxRecDepth 100000 in
theorem pnamed_any (s : ByteArray) (w : World) (hs : s.size ≤ 140737488351232) :
    Calls Tryd.prog 49 #[.string s] w fun e w' => e = .returned (.int .i64 (peerErr s.size)) ∧ w = w' := by
  by_cases h0 : s.size = 0
  · have e : peerErr s.size = 212 := by unfold peerErr; rw [if_pos (.inl h0)]
    have E := Lib.hid e
    have h1 : decide ((s.size : Int) < 1) = true := by simp [h0]
    clear e h0
    go_enter Tryd.func49, Tryd.ntmps49
    go_wp2_with fail
    go_ret
    exact ⟨by rw [E.out]; rfl, rfl⟩
  · have h1 : decide ((s.size : Int) < 1) = false := by simp; omega
    by_cases h2 : 16 < s.size
    · have e : peerErr s.size = 212 := by unfold peerErr; rw [if_pos (.inr h2)]
      have E := Lib.hid e
      clear e h0
      go_enter Tryd.func49, Tryd.ntmps49
      go_wp2_with fail
      go_ret
      exact ⟨by rw [E.out]; rfl, rfl⟩
    · have e : peerErr s.size = 0 := by unfold peerErr; rw [if_neg (by rintro (h | h); exact h0 h; exact h2 h)]
      have E := Lib.hid e
      clear e h0
      go_enter Tryd.func49, Tryd.ntmps49
      go_wp2_with fail
      go_ret
      exact ⟨by rw [E.out]; rfl, rfl⟩
/-- bytes as numbers -/
def toI (l : List UInt8) : List Int := l.map fun x => (x.toNat : Int)
theorem iv_toI (l : List UInt8) : iv (toI l) = bv l := iv_bv l
theorem toI_len (l : List UInt8) : (toI l).length = l.length := by simp [toI]
/-- numbers as bytes -/
def toB (l : List Int) : List UInt8 := l.map fun x => UInt8.ofNat x.toNat
theorem bv_toB (l : List Int) (h : ∀ x ∈ l, 0 ≤ x ∧ x < 256) : bv (toB l) = iv l := by
  unfold bv toB iv
  rw [List.map_map]
  apply List.map_congr_left
  intro x hx
  obtain ⟨h0, h1⟩ := h x hx
  exact u8_ofInt x h0 h1
/-- what the parts tell of a text -/
def mark (kk bg : List Int) (l : List UInt8) : List UInt8 := toB ((sha kk bg (toI l)).take 8)
theorem mark_len (kk bg : List Int) (l : List UInt8) : (mark kk bg l).length = 8 := by unfold mark toB; rw [List.length_map, List.length_take, sha_len]; rfl
theorem bv_mark (kk bg : List Int) (l : List UInt8) : bv (mark kk bg l) = iv ((sha kk bg (toI l)).take 8) := bv_toB _ (fun x hx => sha_mem kk bg _ x (List.mem_of_mem_take hx))
theorem rdi_lit1 (w : World) (T : TypeId) (a : Value) (la : List Int) (ha : Rd w a (iv la)) :
    Rdi (w.alloc (.cells #[a] T)) (.slice (some ⟨w.heap.size, 0, none⟩) 1 1) [la] := by
  refine ⟨[a], rd_lit1 w T a, rfl, ?_⟩
  rintro (_ | i) x l hx hl
  · cases hx; cases hl; exact ha.kp0 ((Kp.refl [] w).alloc _)
  · cases hx
theorem run_cut8 (W : World) (g : Nat) :
    (Instr.sliceAt 25 (.pointer (some ⟨g, 0, none⟩)) none (some (.int .i64 8)) none).run Tryd.prog W = .ok (.slice (some ⟨g, 0, none⟩) 8 32) W := by
  have ht : Tryd.prog.underlying 25 = some (.array (Tryd.prog.arrayLen 25) (Tryd.prog.elem 25)) := by kernel_rfl
  have hl : Tryd.prog.arrayLen 25 = 32 := by kernel_rfl
  have hs : (sizeOf (Tryd.prog.elem 25)).run Tryd.prog W = .ok 1 W := by kernel_rfl
  rw [run_sliceAt_array_h W _ _ ht .i64 8 (by decide) (by rw [hl]; decide), hs, hl]
  rfl
theorem run_arr8 (W : World) (a : Addr) (c : Nat) : (Instr.arrayAt 88 (.slice (some a) 8 c)).run Tryd.prog W = .ok (.pointer (some a)) W := by
  unfold Instr.arrayAt
  simp only [Sem.run_bind, run_underlying Tryd.underlying88, Result.andThen_ok]
  rfl
theorem row_range {w : World} {b : Nat} {l : List Int} {T : TypeId} (hb : w.heap[b]? = some (.cells (u8s l) T (0, 0))) (n : Nat) : w.rangeAt b 0 (iv (l.take n)) := by
  intro j v hv
  rw [Nat.zero_add, cell_of_row w b j _ _ _ hb]
  unfold iv at hv
  rw [List.map_take, List.getElem?_take] at hv
  split at hv
  · simpa [u8s] using hv
  · cases hv
/-- what lies where in marked -/
structure MK (w W : World) (K D : Nat) (d : List Int) : Prop where
  k : Kp [] w W
  hK : w.heap.size ≤ K
  hD : K < D
  box : W.heap[K]? = some (.cells (u8s (List.replicate 8 0)) 88 (0, 0))
  dig : W.heap[D]? = some (.cells (u8s d) 25 (0, 0))
theorem mk_start {w w1 : World} {d : List Int} {Z : Array Value} (k : Kp [] (w.alloc (.cells (u8s (List.replicate 8 0)) 88)) w1) :
    MK w ((w1.alloc (.cells Z 25)).setRow w1.heap.size (u8s d)) w.heap.size w1.heap.size d := by
  have k0 : Kp [] w (w.alloc (.cells (u8s (List.replicate 8 0)) 88)) := (Kp.refl [] w).alloc _
  have hb : (w.alloc (.cells (u8s (List.replicate 8 0)) 88)).heap[w.heap.size]? = some (.cells (u8s (List.replicate 8 0)) 88) := heap_alloc_new w _
  have hz : w.heap.size < w1.heap.size := by have h1 := k.size; simp at h1; omega
  have kB : Kp [] w1 (w1.alloc (.cells Z 25)) := (Kp.refl [] w1).alloc _
  have kC := kp_setRow (w1.alloc (.cells Z 25)) w1.heap.size (u8s d)
  have kD : Kp [] w1 ((w1.alloc (.cells Z 25)).setRow w1.heap.size (u8s d)) := kB.trans kC (fun m hm => by rw [List.mem_singleton] at hm; subst hm; exact .inr (Nat.le_refl _))
  exact ⟨(k0.trans0 k).trans0 kD, Nat.le_refl _, hz, (k.trans0 kD).heap hb (by simp), setRow_heap _ _ _ _ _ _ (heap_alloc_new w1 _)⟩
set_option maxRecDepth 100000 in
set_option maxHeartbeats 1000000 in
theorem marked_any (kk bg : List Int) (v : Value) (l : List UInt8) (w : World) (hT : Tabs kk bg w) (hv : Rd w v (bv l)) (hl : l.length ≤ 562949953421312) :
    Calls Tryd.prog 43 #[v] w fun e w' => e = .returned (.agg (bv (mark kk bg l)).toArray) ∧ Kp [] w w' := by
  obtain ⟨ao, cap, rfl⟩ := hv.form
  rw [show (bv l).length = l.length from bv_length l] at hv ⊢
  have HT := Lib.hid hT
  have HV : Hid (Rd w (.slice ao l.length cap) (iv (toI l))) := Lib.hid (by rw [iv_toI]; exact hv)
  have HM := Lib.hid (bv_mark kk bg l)
  have HL : Hid ([toI l].flatten.length ≤ 562949953421312) := Lib.hid (by simp [toI_len]; exact hl)
  have HF : Hid ([toI l].flatten = toI l) := Lib.hid (by simp)
  have HD : Hid ((sha kk bg (toI l)).length = 32) := Lib.hid (sha_len _ _ _)
  have HS : Hid (∀ v' W, Tabs kk bg W → Rdi W v' [toI l] → Calls Tryd.prog 13 #[v'] W fun e w' => e = .returned (.agg (u8s (sha kk bg (toI l)))) ∧ Kp [] W w') := Lib.hid (fun v' W h1 h2 => by
    have := shasum_any kk bg v' [toI l] W h1 h2 HL.out (by simp)
    rw [HF.out] at this
    exact this)
  generalize bv (mark kk bg l) = M at *
  generalize sha kk bg (toI l) = d at *
  have hsl := fun W g => run_cut8 W g
  have har := fun W a c => run_arr8 W a c
  clear hT hv hl
  have HT8 : Hid ((d.take 8).length = 8) := Lib.hid (by rw [List.length_take, HD.out]; rfl)
  have HA : Hid (Rdi ((w.alloc (.cells (u8s (List.replicate 8 0)) 88)).alloc (.cells #[.slice ao l.length cap] 27)) (.slice (some ⟨w.heap.size + 1, 0, none⟩) 1 1) [toI l]) := Lib.hid (by
    have h := rdi_lit1 (w.alloc (.cells (u8s (List.replicate 8 0)) 88)) 27 (.slice ao l.length cap) (toI l) (HV.out.kp0 ((Kp.refl [] w).alloc _))
    rw [show (w.alloc (.cells (u8s (List.replicate 8 0)) 88)).heap.size = w.heap.size + 1 by simp] at h
    exact h)
  go_enter Tryd.func43, Tryd.ntmps43
  go_wp2_with (first
    | (go_at_call 13; go_must (refine (HS.out _ _ (HT.out.kp (((Kp.refl [] w).alloc _).alloc _)) HA.out).mono ?_; rintro e w1 ⟨rfl, hk1⟩; have HK1 := Lib.hid (((Kp.refl [] (w.alloc (.cells (u8s (List.replicate 8 0)) 88))).alloc (.cells #[.slice ao l.length cap] 27)).trans0 hk1); clear hk1))
    | ((with_reducible refine wpList_store_row ?a1 25 (.tmp 3) (.tmp 6) ?a2 w1.heap.size (u8s d) ?a3 ?a4 25 (u8s (List.replicate 32 0)) ?a5 ?a6 ?a7 ?a8 ?a9); (case a1 => rfl); (case a2 => rfl); (case a3 => rfl); (case a4 => rfl); (case a5 => exact heap_alloc_new w1 _); (case a6 => (rw [u8s_size, HD.out]; kernel_rfl)); (case a7 => (rw [u8s_size, u8s_size, HD.out, List.length_replicate])); (case a8 => exact one_u8s _); have HMK : Hid (MK w ((w1.alloc (.cells (u8s (List.replicate 32 0)) 25)).setRow w1.heap.size (u8s d)) w.heap.size w1.heap.size d) := Lib.hid (mk_start (Z := u8s (List.replicate 32 0)) HK1.out); change wpList _ _ _ _ _ ((w1.alloc (.cells (u8s (List.replicate 32 0)) 25)).setRow w1.heap.size (u8s d)); generalize (w1.alloc (.cells (u8s (List.replicate 32 0)) 25)).setRow w1.heap.size (u8s d) = W2 at *)
    | ((with_reducible refine wpList_load_mid ?b1 88 (.tmp 8) ?b2 w1.heap.size 0 ?b3 (iv (d.take 8)) ?b4 ?b5 ?b6 ?b7 ?b8 ?b9); (case b1 => rfl); (case b2 => rfl); (case b3 => rfl); (case b5 => exact row_range HMK.out.dig 8); (case b6 => exact Tryd.underlying88); (case b7 => rfl); (case b8 => (rw [iv_length, HT8.out]; kernel_rfl)))
    | ((with_reducible refine wpList_store_row ?c1 88 (.tmp 2) (.tmp 9) ?c2 w.heap.size (iv (d.take 8)).toArray ?c3 ?c4 88 (u8s (List.replicate 8 0)) ?c5 ?c6 ?c7 ?c8 ?c9); (case c1 => rfl); (case c2 => rfl); (case c3 => rfl); (case c4 => rfl); (case c5 => exact HMK.out.box); (case c6 => (rw [List.size_toArray, iv_length, HT8.out]; kernel_rfl)); (case c7 => (rw [u8s_size, List.length_replicate, List.size_toArray, iv_length, HT8.out])); (case c8 => exact all_oneCell_toArray (iv_one _))))
  have r2 := setRow_heap _ w.heap.size _ (iv (d.take 8)).toArray _ _ HMK.out.box
  have r1 := HMK.out.k.trans (kp_setRow _ w.heap.size (iv (d.take 8)).toArray) (fun m hm => by rw [List.mem_singleton] at hm; subst hm; exact .inr (Nat.le_refl _))
  rw [HM.out]
  exact bodyPost_ret (results_cell_row rfl _ _ w.heap.size 88 _ (0, 0) _ rfl r2 Tryd.underlying88 rfl (by rw [List.size_toArray, iv_length, HT8.out]; kernel_rfl)) rfl ⟨rfl, r1⟩
end Go.Proofs.YtkceaepbjdfccaaDoor
