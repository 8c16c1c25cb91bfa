/-
What wire.Join, wire.Same, wire.Blank and wire.Wipe come to.
-/
import Derived.Test.YtkceaepbjdfccaaWire2
namespace Go.Proofs.Ytkceaepbjdfccaa
open Go.RowKit

/-! Join -/
/-- how many bytes the parts have, all together -/
def flen (ls : List (List UInt8)) : Nat := ls.flatten.length
theorem flat_take (ls : List (List UInt8)) (k : Nat) (h : k < ls.length) : (ls.take (k + 1)).flatten = (ls.take k).flatten ++ ls[k] := by
  rw [List.take_succ_eq_append_getElem h, List.flatten_append]; simp
theorem flen_take (ls : List (List UInt8)) (k : Nat) (h : k < ls.length) : flen (ls.take (k + 1)) = flen (ls.take k) + ls[k].length := by unfold flen; rw [flat_take ls k h, List.length_append]
theorem flat_le (ls : List (List UInt8)) (k : Nat) : flen (ls.take k) ≤ flen ls := by
  unfold flen
  conv => rhs; rw [← List.take_append_drop k ls]
  rw [List.flatten_append, List.length_append]; omega
set_option maxRecDepth 100000 in
set_option maxHeartbeats 1000000 in
theorem join_any (v : Value) (ls : List (List UInt8)) (w : World) (hv : Rdd w v ls) (hn : flen ls ≤ 211106232532992) (hm : ls.length ≤ 211106232532992) :
    Calls Try.prog 14 #[v] w fun e w' => e = .returned (.slice (some ⟨w.heap.size, 0, none⟩) (flen ls) (flen ls)) ∧
      Own w' w.heap.size 5 (.slice (some ⟨w.heap.size, 0, none⟩) (flen ls) (flen ls)) (bv ls.flatten) ∧ Kp [] w w' := by
  obtain ⟨ao, cap, rfl⟩ := hv.form
  go_enter Try.func14, Try.ntmps14
  go_wp2_with fail
  go_loop [3, 11] (fun n i => ∃ k : Nat, k ≤ ls.length ∧ i = .int .i64 k ∧ n = .int .i64 (flen (ls.take k) : Nat)) (fun _ i => ls.length - (intOf i).toNat)
  case atStart => exact ⟨0, Nat.zero_le _, rfl, rfl⟩
  case round =>
    obtain ⟨k, hk, rfl, rfl⟩ := hrel
    by_cases hlt : k < ls.length
    · obtain ⟨b, off, hao, ao', cap', hc, hr⟩ := hv.at hlt
      subst hao
      have hf := Lib.hid (flat_take ls k hlt)
      have hle := flat_le ls (k + 1)
      have hle0 := flat_le ls k
      have hsum : flen (ls.take (k + 1)) = flen (ls.take k) + ls[k].length := flen_take ls k hlt
      have HSUM := Lib.hid hsum
      rw [hsum] at hle
      clear hsum hr hv
      generalize hL : flen (ls.take k) = L at *
      generalize hM : ls[k].length = M at *
      clear hL hM
      go_wp2_with fail
      go_round
      case rel => exact ⟨k + 1, by omega, by go_num, by rw [HSUM.out]; go_num⟩
      case measure => simp [intOf]; omega
    · have hkl : k = ls.length := by omega
      subst hkl
      rw [List.take_length]
      go_wp2_with (first | (at_make; refine wpl_make0 el_u8 rfl _ _ rfl _ _ _ (flen ls) rfl rfl rfl (by omega) (by omega) ?_) | fail)
      intro w1 hown hgrow hsz
      go_wp2_with fail
      go_loopw [6, 24] (fun out i wr => ∃ k : Nat, k ≤ ls.length ∧ i = .int .i64 k ∧ out = .slice (some ⟨w.heap.size, 0, none⟩) (flen (ls.take k)) (flen ls) ∧ Own wr w.heap.size 5 out (bv (ls.take k).flatten) ∧ Kp [] w wr) (fun _ i _ => ls.length - (intOf i).toNat)
      case atStart => exact ⟨0, Nat.zero_le _, rfl, rfl, hown, Kp.of_grown0 hgrow⟩
      case round =>
        clear hown hgrow hsz
        obtain ⟨k, hk, rfl, rfl, hown, hb⟩ := hrel
        by_cases hlt : k < ls.length
        · obtain ⟨b, off, hao, ao', cap', hc, hr⟩ := (hv.kp0 hb).at hlt
          subst hao
          have hf := Lib.hid (flat_take ls k hlt)
          have hle := flat_le ls (k + 1)
          have hsum : flen (ls.take (k + 1)) = flen (ls.take k) + ls[k].length := flen_take ls k hlt
          have HSUM := Lib.hid hsum
          rw [hsum] at hle
          have HO := Lib.hid hown
          have HR := Lib.hid hr
          clear hsum hr hown hv
          go_wp2_with (first | (at_builtin; refine wpl_append_fits el_u8 rfl _ _ rfl (B := w.heap.size) rfl rfl HO.out HR.out (by simp [bv, bval, Value.oneCell']) (by rw [bv_length]; omega) ?_; intro w2 ho2 hg2) | fail)
          rw [bv_length] at ho2 ⊢
          have HO2 := Lib.hid ho2
          have HB := hb.grown hg2 (fun k hk => by cases hk; exact .inr (Nat.le_refl _))
          clear ho2 hg2
          go_wp2_with fail
          go_roundw
          case rel => exact ⟨k + 1, by omega, by go_num, by rw [HSUM.out], by rw [hf.out, bv_append]; exact HO2.out, HB⟩
          case measure => simp [intOf]; omega
        · have hkl : k = ls.length := by omega
          subst hkl
          rw [List.take_length] at hown ⊢
          have HO := Lib.hid hown
          clear hown hv
          go_wp2_with fail
          go_ret
          exact ⟨rfl, HO.out, hb⟩
end Go.Proofs.Ytkceaepbjdfccaa
