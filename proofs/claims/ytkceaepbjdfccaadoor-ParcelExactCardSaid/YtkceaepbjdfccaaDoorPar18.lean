/-
lethelaw26.long.
-/
import Derived.Test.YtkceaepbjdfccaaDoorPar17
namespace Go.Proofs.YtkceaepbjdfccaaDoor
open Go.RowKit
def lgB (seed : Int) (i : Nat) : UInt8 := lo8 ((i : Int) * 7 + (i : Int) / 251 + seed)
def longL (n : Nat) (seed : Int) : List UInt8 := (List.range n).map (lgB seed)
theorem longL_len (n : Nat) (seed : Int) : (longL n seed).length = n := by simp [longL]
theorem longL_succ (n : Nat) (seed : Int) : longL (n + 1) seed = longL n seed ++ [lgB seed n] := by unfold longL; rw [List.range_succ, List.map_append]; rfl
theorem lgB_val (seed : Int) (k : Nat) : Value.int .u8 (wrap64 ((k : Int) * 7 + (k : Int) / 251 + seed) % 256) = bval (lgB seed k) := by
  have h : wrap64 ((k : Int) * 7 + (k : Int) / 251 + seed) % 256 = ((k : Int) * 7 + (k : Int) / 251 + seed) % 256 := by unfold wrap64; omega
  unfold lgB lo8
  rw [u8_ofInt _ (Int.emod_nonneg _ (by decide)) (Int.emod_lt_of_pos _ (by decide)), h]
set_option maxRecDepth 100000 in
set_option maxHeartbeats 400000 in
theorem long_any (n : Nat) (seed : Int) (w : World) (hn : n ≤ 40000) (hs : -9223372036854775808 ≤ seed ∧ seed ≤ 9223372036854775807) :
    Calls Tryd.prog 22 #[.int .i64 n, .int .i64 seed] w fun e w' => ∃ v, e = .returned v ∧ Own w' w.heap.size 5 v (bv (longL n seed)) ∧ Kp [] w w' := by
  obtain ⟨h0, h1⟩ := hs
  go_enter Tryd.func22, Tryd.ntmps22
  go_wp2_with fail
  go_loopw [5, 6] (fun v i wr => ∃ k : Nat, k ≤ n ∧ i = .int .i64 k ∧ Hid (Own wr w.heap.size 5 v (bv (longL k seed)) ∧ Kp [] w wr)) (fun _ i _ => n - (intOf i).toNat)
  case atStart => exact ⟨0, Nat.zero_le _, rfl, Lib.hid ⟨Own.nil _ _ _, Kp.refl _ _⟩⟩
  case round =>
    obtain ⟨k, hk, rfl, HR⟩ := hrel
    by_cases hlt : k < n
    · have HM := Lib.hid (longL_succ k seed)
      have HML := Lib.hid (longL_len k seed)
      go_wp2_with (first
        | (at_builtin; (refine wpl_append el_u8 rfl _ _ rfl rfl rfl (HR.out.1.kp0 (by (repeat (first | exact Kp.refl _ _ | assumption | refine Kp.drewN ?_ _ | refine Kp.drew ?_ | refine Kp.alloc ?_ _ | refine Kp.trans0 ?_ (by assumption))))) (rd_lit1 _ _ _) (by simp [Value.oneCell']) (by rw [bv_length]; have := HML.out; simp; omega) (by rw [bv_length]; have := HML.out; simp; omega) (by have := HR.out.2.size; simp; omega) ?_; intro v1 w1 ho1 hg1; have HO1 := Lib.hid ho1; have HK1 : Hid (Kp [] w w1) := Lib.hid (((HR.out.2.alloc _)).grown hg1 (fun b hb => .inr (HR.out.1.lt hb).1)); clear ho1 hg1))
        | fail)
      go_roundw
      case rel => exact ⟨k + 1, by omega, by go_num, Lib.hid ⟨by rw [HM.out, bv_append]; have := HO1.out; rw [lgB_val] at this; exact this, HK1.out⟩⟩
      case measure => simp [intOf]; omega
    · have hke : k = n := by omega
      subst hke
      go_wp2_with fail
      go_ret
      exact ⟨_, rfl, HR.out.1, HR.out.2⟩
end Go.Proofs.YtkceaepbjdfccaaDoor
