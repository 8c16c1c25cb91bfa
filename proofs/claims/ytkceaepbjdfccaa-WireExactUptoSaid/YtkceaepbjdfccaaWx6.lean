/-
The document's writer: Num.
-/
import Derived.Test.YtkceaepbjdfccaaWx5
import Derived.Test.YtkceaepbjdfccaaWx2
namespace Go.Proofs.Ytkceaepbjdfccaa
open Go.RowKit
set_option maxRecDepth 100000 in
set_option maxHeartbeats 1000000 in
theorem vnum1 (B p : Nat) (most : Int) (ov : Value) (s : List UInt8 × Int) (n : Int) (w : World) (hV : Vr w B p most ov s) (hB : B ≤ w.heap.size) :
    Calls Try.prog 60 #[.pointer (some ⟨p, 0, none⟩), .int .i64 n, .int .i64 1] w (PutV B p most ov (putL most s (withinE n 256) (numB 1 n)) w) := by
  by_cases hn : n < 0 ∨ 256 ≤ n
  · have e : withinE n 256 = 4 := by unfold withinE; rw [if_pos hn]
    have HE := Lib.hid (show putL most s (withinE n 256) (numB 1 n) = putL most s 4 [] by rw [e]; exact putL_e _ _ _ _ _ (by decide))
    have HV := Lib.hid hV
    clear hV e
    rw [HE.out]
    clear HE
    rcases hn with hn | hn
    · go_enter Try.func60, Try.ntmps60
      go_wp2_with fail
      go_loop [6, 7] (fun m i => ∃ k : Nat, i = .int .i64 k ∧ ((k = 1 ∧ m = .int .i64 256))) (fun _ i => 1 - (intOf i).toNat)
      case atStart => exact ⟨1, rfl, rfl, rfl⟩
      case round =>
        obtain ⟨_, rfl, rfl, rfl⟩ := hrel
        go_wp2_with fail
        refine (vfield_any B p most ov s (.slice none 0 0) [] 4 w HV.out hB (Rd.nil _) (by simp)).mono ?_
        rintro r w' ⟨ov', rfl, h⟩
        go_wp2_with fail
        refine bodyPost_ret (results_none rfl _ _ _) rfl ?_
        exact ⟨ov', rfl, h⟩
    · have hn0 : ¬ n < 0 := by omega
      go_enter Try.func60, Try.ntmps60
      go_wp2_with fail
      go_loop [6, 7] (fun m i => ∃ k : Nat, i = .int .i64 k ∧ ((k = 1 ∧ m = .int .i64 256))) (fun _ i => 1 - (intOf i).toNat)
      case atStart => exact ⟨1, rfl, rfl, rfl⟩
      case round =>
        obtain ⟨_, rfl, rfl, rfl⟩ := hrel
        go_wp2_with fail
        refine (vfield_any B p most ov s (.slice none 0 0) [] 4 w HV.out hB (Rd.nil _) (by simp)).mono ?_
        rintro r w' ⟨ov', rfl, h⟩
        go_wp2_with fail
        refine bodyPost_ret (results_none rfl _ _ _) rfl ?_
        exact ⟨ov', rfl, h⟩
  · have hn0 : ¬ n < 0 := by omega
    have hn1 : ¬ 256 ≤ n := by omega
    have e : withinE n 256 = 0 := by unfold withinE; rw [if_neg hn]
    have HV := Lib.hid hV
    clear hV
    rw [e]
    clear e hn
    go_enter Try.func60, Try.ntmps60
    go_wp2_with fail
    go_loop [6, 7] (fun m i => ∃ k : Nat, i = .int .i64 k ∧ ((k = 1 ∧ m = .int .i64 256))) (fun _ i => 1 - (intOf i).toNat)
    case atStart => exact ⟨1, rfl, rfl, rfl⟩
    case round =>
      obtain ⟨_, rfl, rfl, rfl⟩ := hrel
      go_wp2_with fail
      refine (rnumber_any n 1 w (by omega) (by omega) (by omega)).mono ?_
      rintro r w1 ⟨x, rfl, ho, k⟩
      have HO := Lib.hid ho
      clear ho
      go_wp2_with fail
      refine (vfield_any B p most ov s x (numB 1 n) 0 w1 (HV.out.kp0 k) (Nat.le_trans hB k.size) HO.out.rd (by rw [numB_len]; omega)).mono ?_
      intro r w' h
      obtain ⟨ov', rfl, h1, h2, h3⟩ := PutV.later k h
      go_wp2_with fail
      go_end0
      exact ⟨ov', rfl, h1, h2, h3⟩
set_option maxRecDepth 100000 in
set_option maxHeartbeats 1000000 in
theorem vnum2 (B p : Nat) (most : Int) (ov : Value) (s : List UInt8 × Int) (n : Int) (w : World) (hV : Vr w B p most ov s) (hB : B ≤ w.heap.size) :
    Calls Try.prog 60 #[.pointer (some ⟨p, 0, none⟩), .int .i64 n, .int .i64 2] w (PutV B p most ov (putL most s (withinE n 65536) (numB 2 n)) w) := by
  by_cases hn : n < 0 ∨ 65536 ≤ n
  · have e : withinE n 65536 = 4 := by unfold withinE; rw [if_pos hn]
    have HE := Lib.hid (show putL most s (withinE n 65536) (numB 2 n) = putL most s 4 [] by rw [e]; exact putL_e _ _ _ _ _ (by decide))
    have HV := Lib.hid hV
    clear hV e
    rw [HE.out]
    clear HE
    rcases hn with hn | hn
    · go_enter Try.func60, Try.ntmps60
      go_wp2_with fail
      go_loop [6, 7] (fun m i => ∃ k : Nat, i = .int .i64 k ∧ ((k = 1 ∧ m = .int .i64 256) ∨ (k = 2 ∧ m = .int .i64 65536))) (fun _ i => 2 - (intOf i).toNat)
      case atStart => exact ⟨1, rfl, .inl ⟨rfl, rfl⟩⟩
      case round =>
        obtain ⟨k, rfl, hk⟩ := hrel
        rcases hk with ⟨rfl, rfl⟩ | ⟨rfl, rfl⟩
        · go_wp2_with fail
          go_round
          case rel => exact ⟨2, by go_num, by simp⟩
          case measure => simp [intOf]
        · go_wp2_with fail
          refine (vfield_any B p most ov s (.slice none 0 0) [] 4 w HV.out hB (Rd.nil _) (by simp)).mono ?_
          rintro r w' ⟨ov', rfl, h⟩
          go_wp2_with fail
          refine bodyPost_ret (results_none rfl _ _ _) rfl ?_
          exact ⟨ov', rfl, h⟩
    · have hn0 : ¬ n < 0 := by omega
      go_enter Try.func60, Try.ntmps60
      go_wp2_with fail
      go_loop [6, 7] (fun m i => ∃ k : Nat, i = .int .i64 k ∧ ((k = 1 ∧ m = .int .i64 256) ∨ (k = 2 ∧ m = .int .i64 65536))) (fun _ i => 2 - (intOf i).toNat)
      case atStart => exact ⟨1, rfl, .inl ⟨rfl, rfl⟩⟩
      case round =>
        obtain ⟨k, rfl, hk⟩ := hrel
        rcases hk with ⟨rfl, rfl⟩ | ⟨rfl, rfl⟩
        · go_wp2_with fail
          go_round
          case rel => exact ⟨2, by go_num, by simp⟩
          case measure => simp [intOf]
        · go_wp2_with fail
          refine (vfield_any B p most ov s (.slice none 0 0) [] 4 w HV.out hB (Rd.nil _) (by simp)).mono ?_
          rintro r w' ⟨ov', rfl, h⟩
          go_wp2_with fail
          refine bodyPost_ret (results_none rfl _ _ _) rfl ?_
          exact ⟨ov', rfl, h⟩
  · have hn0 : ¬ n < 0 := by omega
    have hn1 : ¬ 65536 ≤ n := by omega
    have e : withinE n 65536 = 0 := by unfold withinE; rw [if_neg hn]
    have HV := Lib.hid hV
    clear hV
    rw [e]
    clear e hn
    go_enter Try.func60, Try.ntmps60
    go_wp2_with fail
    go_loop [6, 7] (fun m i => ∃ k : Nat, i = .int .i64 k ∧ ((k = 1 ∧ m = .int .i64 256) ∨ (k = 2 ∧ m = .int .i64 65536))) (fun _ i => 2 - (intOf i).toNat)
    case atStart => exact ⟨1, rfl, .inl ⟨rfl, rfl⟩⟩
    case round =>
      obtain ⟨k, rfl, hk⟩ := hrel
      rcases hk with ⟨rfl, rfl⟩ | ⟨rfl, rfl⟩
      · go_wp2_with fail
        go_round
        case rel => exact ⟨2, by go_num, by simp⟩
        case measure => simp [intOf]
      · go_wp2_with fail
        refine (rnumber_any n 2 w (by omega) (by omega) (by omega)).mono ?_
        rintro r w1 ⟨x, rfl, ho, k⟩
        have HO := Lib.hid ho
        clear ho
        go_wp2_with fail
        refine (vfield_any B p most ov s x (numB 2 n) 0 w1 (HV.out.kp0 k) (Nat.le_trans hB k.size) HO.out.rd (by rw [numB_len]; omega)).mono ?_
        intro r w' h
        obtain ⟨ov', rfl, h1, h2, h3⟩ := PutV.later k h
        go_wp2_with fail
        go_end0
        exact ⟨ov', rfl, h1, h2, h3⟩
set_option maxRecDepth 100000 in
set_option maxHeartbeats 1000000 in
theorem vnum4 (B p : Nat) (most : Int) (ov : Value) (s : List UInt8 × Int) (n : Int) (w : World) (hV : Vr w B p most ov s) (hB : B ≤ w.heap.size) :
    Calls Try.prog 60 #[.pointer (some ⟨p, 0, none⟩), .int .i64 n, .int .i64 4] w (PutV B p most ov (putL most s (withinE n 4294967296) (numB 4 n)) w) := by
  by_cases hn : n < 0 ∨ 4294967296 ≤ n
  · have e : withinE n 4294967296 = 4 := by unfold withinE; rw [if_pos hn]
    have HE := Lib.hid (show putL most s (withinE n 4294967296) (numB 4 n) = putL most s 4 [] by rw [e]; exact putL_e _ _ _ _ _ (by decide))
    have HV := Lib.hid hV
    clear hV e
    rw [HE.out]
    clear HE
    rcases hn with hn | hn
    · go_enter Try.func60, Try.ntmps60
      go_wp2_with fail
      go_loop [6, 7] (fun m i => ∃ k : Nat, i = .int .i64 k ∧ ((k = 1 ∧ m = .int .i64 256) ∨ (k = 2 ∧ m = .int .i64 65536) ∨ (k = 3 ∧ m = .int .i64 16777216) ∨ (k = 4 ∧ m = .int .i64 4294967296))) (fun _ i => 4 - (intOf i).toNat)
      case atStart => exact ⟨1, rfl, .inl ⟨rfl, rfl⟩⟩
      case round =>
        obtain ⟨k, rfl, hk⟩ := hrel
        rcases hk with ⟨rfl, rfl⟩ | ⟨rfl, rfl⟩ | ⟨rfl, rfl⟩ | ⟨rfl, rfl⟩
        · go_wp2_with fail
          go_round
          case rel => exact ⟨2, by go_num, by simp⟩
          case measure => simp [intOf]
        · go_wp2_with fail
          go_round
          case rel => exact ⟨3, by go_num, by simp⟩
          case measure => simp [intOf]
        · go_wp2_with fail
          go_round
          case rel => exact ⟨4, by go_num, by simp⟩
          case measure => simp [intOf]
        · go_wp2_with fail
          refine (vfield_any B p most ov s (.slice none 0 0) [] 4 w HV.out hB (Rd.nil _) (by simp)).mono ?_
          rintro r w' ⟨ov', rfl, h⟩
          go_wp2_with fail
          refine bodyPost_ret (results_none rfl _ _ _) rfl ?_
          exact ⟨ov', rfl, h⟩
    · have hn0 : ¬ n < 0 := by omega
      go_enter Try.func60, Try.ntmps60
      go_wp2_with fail
      go_loop [6, 7] (fun m i => ∃ k : Nat, i = .int .i64 k ∧ ((k = 1 ∧ m = .int .i64 256) ∨ (k = 2 ∧ m = .int .i64 65536) ∨ (k = 3 ∧ m = .int .i64 16777216) ∨ (k = 4 ∧ m = .int .i64 4294967296))) (fun _ i => 4 - (intOf i).toNat)
      case atStart => exact ⟨1, rfl, .inl ⟨rfl, rfl⟩⟩
      case round =>
        obtain ⟨k, rfl, hk⟩ := hrel
        rcases hk with ⟨rfl, rfl⟩ | ⟨rfl, rfl⟩ | ⟨rfl, rfl⟩ | ⟨rfl, rfl⟩
        · go_wp2_with fail
          go_round
          case rel => exact ⟨2, by go_num, by simp⟩
          case measure => simp [intOf]
        · go_wp2_with fail
          go_round
          case rel => exact ⟨3, by go_num, by simp⟩
          case measure => simp [intOf]
        · go_wp2_with fail
          go_round
          case rel => exact ⟨4, by go_num, by simp⟩
          case measure => simp [intOf]
        · go_wp2_with fail
          refine (vfield_any B p most ov s (.slice none 0 0) [] 4 w HV.out hB (Rd.nil _) (by simp)).mono ?_
          rintro r w' ⟨ov', rfl, h⟩
          go_wp2_with fail
          refine bodyPost_ret (results_none rfl _ _ _) rfl ?_
          exact ⟨ov', rfl, h⟩
  · have hn0 : ¬ n < 0 := by omega
    have hn1 : ¬ 4294967296 ≤ n := by omega
    have e : withinE n 4294967296 = 0 := by unfold withinE; rw [if_neg hn]
    have HV := Lib.hid hV
    clear hV
    rw [e]
    clear e hn
    go_enter Try.func60, Try.ntmps60
    go_wp2_with fail
    go_loop [6, 7] (fun m i => ∃ k : Nat, i = .int .i64 k ∧ ((k = 1 ∧ m = .int .i64 256) ∨ (k = 2 ∧ m = .int .i64 65536) ∨ (k = 3 ∧ m = .int .i64 16777216) ∨ (k = 4 ∧ m = .int .i64 4294967296))) (fun _ i => 4 - (intOf i).toNat)
    case atStart => exact ⟨1, rfl, .inl ⟨rfl, rfl⟩⟩
    case round =>
      obtain ⟨k, rfl, hk⟩ := hrel
      rcases hk with ⟨rfl, rfl⟩ | ⟨rfl, rfl⟩ | ⟨rfl, rfl⟩ | ⟨rfl, rfl⟩
      · go_wp2_with fail
        go_round
        case rel => exact ⟨2, by go_num, by simp⟩
        case measure => simp [intOf]
      · go_wp2_with fail
        go_round
        case rel => exact ⟨3, by go_num, by simp⟩
        case measure => simp [intOf]
      · go_wp2_with fail
        go_round
        case rel => exact ⟨4, by go_num, by simp⟩
        case measure => simp [intOf]
      · go_wp2_with fail
        refine (rnumber_any n 4 w (by omega) (by omega) (by omega)).mono ?_
        rintro r w1 ⟨x, rfl, ho, k⟩
        have HO := Lib.hid ho
        clear ho
        go_wp2_with fail
        refine (vfield_any B p most ov s x (numB 4 n) 0 w1 (HV.out.kp0 k) (Nat.le_trans hB k.size) HO.out.rd (by rw [numB_len]; omega)).mono ?_
        intro r w' h
        obtain ⟨ov', rfl, h1, h2, h3⟩ := PutV.later k h
        go_wp2_with fail
        go_end0
        exact ⟨ov', rfl, h1, h2, h3⟩
end Go.Proofs.Ytkceaepbjdfccaa
