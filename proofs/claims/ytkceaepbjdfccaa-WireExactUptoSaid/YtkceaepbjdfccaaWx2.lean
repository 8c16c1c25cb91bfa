/-
The document's answer: numbers in bytes; bytes in hexadecimal.
-/
import Derived.Test.YtkceaepbjdfccaaWx1
namespace Go.Proofs.Ytkceaepbjdfccaa
open Go.RowKit
/-- n in so many bytes, the highest first -/
def numB : Nat → Int → List UInt8
  | 0, _ => []
  | s + 1, n => numB s (n / 256) ++ [lo8 n]
theorem numB_len (s : Nat) : ∀ n, (numB s n).length = s := by
  induction s with
  | zero => intro n; rfl
  | succ s ih => intro n; simp [numB, ih]
theorem numB_one (n : Int) : numB 1 n = [lo8 n] := rfl
theorem numB_two (n : Int) : numB 2 n = be16 n := rfl
theorem numB_four (n : Int) : numB 4 n = be32 n := by
  simp only [numB, be32, List.nil_append, List.cons_append]
  rw [show n / 256 / 256 / 256 = n / 16777216 by omega, show n / 256 / 256 = n / 65536 by omega]
theorem set_rep (j : Nat) (T : List Value) (u : Value) : ((List.replicate (j + 1) (Value.int .u8 0)) ++ T).set j u = List.replicate j (Value.int .u8 0) ++ (u :: T) := by
  induction j with
  | zero => rfl
  | succ j ih => rw [List.replicate_succ, List.cons_append, List.set_cons_succ, ih]; rfl
set_option maxRecDepth 100000 in
set_option maxHeartbeats 1000000 in
theorem rnumber_any (n : Int) (size : Nat) (w : World) (h0 : 0 ≤ n) (h1 : n < 4294967296) (hs : size ≤ 4) :
    Calls Try.prog 77 #[.int .i64 n, .int .i64 size] w fun e w' => ∃ v, e = .returned v ∧ Own w' w.heap.size 5 v (bv (numB size n)) ∧ Kp [] w w' := by
  go_enter Try.func77, Try.ntmps77
  go_wp2_with (first | (at_make; refine wpl_make el_u8 rfl rfl _ _ rfl _ _ _ _ size rfl rfl rfl rfl (by omega) (by omega) ?_) | fail)
  intro w1 hown hgrow hsz
  obtain ⟨g, hg⟩ : ∃ g, w.heap.size = g := ⟨_, rfl⟩
  have HG := Lib.hid hg
  rw [hg] at hown hsz ⊢
  have HK : Hid (Kp [g] w w1) := Lib.hid (Kp.of_grown0 hgrow)
  have HO := Lib.hid hown
  clear hown hgrow hg
  go_wp2_with fail
  go_loopw [0, 6] (fun m i wr => ∃ (j : Nat) (M : Int) (T : List UInt8), j ≤ size ∧ i = .int .i64 ((j : Int) - 1) ∧ m = .int .i64 M ∧ 0 ≤ M ∧ M < 4294967296 ∧ Hid (numB size n = numB j M ++ T) ∧ Own wr g 5 (.slice (some ⟨g, 0, none⟩) size size) (List.replicate j (.int .u8 0) ++ bv T) ∧ Kp [g] w wr) (fun _ i _ => ((intOf i) + 1).toNat)
  case atStart => exact ⟨size, n, [], Nat.le_refl _, rfl, rfl, h0, h1, Lib.hid (by simp), by simpa [bv] using HO.out, HK.out⟩
  case round =>
    obtain ⟨j, M, T, hj, rfl, rfl, hM0, hM1, HN, ho, hk⟩ := hrel
    clear HO HK
    cases j with
    | zero =>
      have HO := Lib.hid ho
      clear ho
      go_wp2_with fail
      go_ret
      exact ⟨_, rfl, by rw [HN.out, HG.out]; simpa [numB] using HO.out, hk.mono (fun m hm => by rw [List.mem_singleton] at hm; subst hm; exact .inr (by rw [HG.out]; exact Nat.le_refl _))⟩
    | succ j =>
      obtain ⟨g', ha, hcy, hfz, hb1, hb2, hset⟩ := ho.slotV (k := j) (by simp; omega)
      simp only [Option.some.injEq, Addr.mk.injEq, and_true] at ha
      subst ha
      have HS := Lib.hid hset
      have hq0 : 0 ≤ M / 256 := by omega
      have hq1 : M / 256 < 4294967296 := by omega
      have hm0 : 0 ≤ M % 256 := by omega
      have hm1 : M % 256 < 256 := by omega
      have hcast : ((j : Nat) + 1 : Nat) = (j : Int) + 1 := by simp
      clear hset ho
      go_wp2_with fail
      go_roundw
      case rel => exact ⟨j, M / 256, lo8 M :: T, by omega, by go_num, rfl, hq0, hq1, Lib.hid (by rw [HN.out]; simp [numB]), by
        have h := HS.out (bval (lo8 M))
        rw [set_rep, bval_lo8] at h
        simpa [bv, bval_lo8] using h, hk.setCell (.inl (by simp)) _⟩
      case measure => simp [intOf]
/-- the value of up to four bytes -/
theorem numL_small4 (l : List UInt8) (k : Nat) (h : k < l.length) (h4 : k < 4) (hb : numL (l.take k) < [1, 256, 65536, 16777216].getD k 0) :
    numL (l.take (k + 1)) = numL (l.take k) * 256 + (l[k].toNat : Int) ∧ numL (l.take (k + 1)) < [1, 256, 65536, 16777216, 4294967296].getD (k + 1) 0 := by
  have h0 := (numL_lo (l.take k)).1
  have hc := u8_lt l[k]
  rw [numL_snoc l k h]
  have : k = 0 ∨ k = 1 ∨ k = 2 ∨ k = 3 := by omega
  rcases this with rfl | rfl | rfl | rfl <;> simp only [List.getD_cons_zero, List.getD_cons_succ] at hb ⊢ <;> omega
set_option maxRecDepth 100000 in
set_option maxHeartbeats 1000000 in
theorem rvalue_any (x : Value) (l : List UInt8) (w : World) (hx : Rd w x (bv l)) (hl : l.length ≤ 4) :
    Calls Try.prog 79 #[x] w fun e w' => e = .returned (.int .i64 (numL l)) ∧ w = w' := by
  obtain ⟨ax, cx, rfl⟩ := hx.form
  rw [bv_length] at hx ⊢
  go_enter Try.func79, Try.ntmps79
  go_wp2_with fail
  go_loop [3, 4] (fun c i => ∃ (k : Nat) (X : Int), k ≤ l.length ∧ i = .int .i64 k ∧ c = .int .i64 X ∧ 0 ≤ X ∧ X < 4294967296 ∧ Hid (X = numL (l.take k) ∧ X < [1, 256, 65536, 16777216, 4294967296].getD k 0)) (fun _ i => l.length - (intOf i).toNat)
  case atStart => exact ⟨0, 0, Nat.zero_le _, rfl, rfl, by omega, by omega, Lib.hid ⟨rfl, by decide⟩⟩
  case round =>
    obtain ⟨k, X, hk, rfl, rfl, hX0, hX1, HX⟩ := hrel
    by_cases hlt : k < l.length
    · obtain ⟨bx, ox, hax, _, hcx⟩ := hx.byte hlt
      subst hax
      have hp0 := u8_lt l[k]
      have hp1 : (0 : Int) ≤ (l[k].toNat : Int) := by omega
      have hpre : numL (l.take k) < [1, 256, 65536, 16777216].getD k 0 := by
        rw [← HX.out.1]
        have h5 := HX.out.2
        have h4 : k = 0 ∨ k = 1 ∨ k = 2 ∨ k = 3 := by omega
        rcases h4 with rfl | rfl | rfl | rfl <;> simpa using h5
      have HT := Lib.hid (numL_small4 l k hlt (by omega) hpre)
      clear hpre
      have HL := Lib.hid (numL_lo (l.take (k + 1)))
      rw [← HX.out.1] at HT
      clear hx
      generalize (l[k].toNat : Int) = P at *
      have hs1 : X * 256 + P < 4294967296 := by rw [← HT.out.1]; exact HL.out.2
      go_wp2_with fail
      go_round
      case rel => exact ⟨k + 1, X * 256 + P, by omega, by go_num, rfl, by omega, hs1, Lib.hid ⟨HT.out.1.symm, by rw [← HT.out.1]; exact HT.out.2⟩⟩
      case measure => simp [intOf]; omega
    · have hkl : k = l.length := by omega
      subst hkl
      have HR : Hid (X = numL l) := by
        have h := HX.out.1
        rw [List.take_length] at h
        exact Lib.hid h
      clear hx
      go_wp2_with fail
      go_ret
      exact ⟨by rw [← HR.out]; rfl, rfl⟩
set_option maxRecDepth 100000 in
set_option maxHeartbeats 1000000 in
theorem rhex_any (v : Value) (l : List UInt8) (w : World) (hs : l.length ≤ 35184372088832) (hc : Rd w v (bv l)) :
    Calls Try.prog 83 #[v] w fun e w' => e = .returned (.string (strOf (hexL l))) ∧ Kp [] w w' := by
  obtain ⟨ao, cap, rfl⟩ := hc.form
  rw [bv_length] at hc ⊢
  go_enter Try.func83, Try.ntmps83
  go_wp2_with fail
  go_loopw [3, 4] (fun out i wr => ∃ k : Nat, k ≤ l.length ∧ i = .int .i64 k ∧ Own wr w.heap.size 5 out (bv (hexL (l.take k))) ∧ Kp [] w wr) (fun _ i _ => l.length - (intOf i).toNat)
  case atStart => exact ⟨0, Nat.zero_le _, rfl, Own.nil _ _ _, Kp.refl _ _⟩
  case round =>
    obtain ⟨k, hk, rfl, hown, hb⟩ := hrel
    obtain ⟨oa, oc, rfl⟩ := hown.rd.form
    generalize hlo : (bv (hexL (l.take k))).length = ol at *
    have HLO := Lib.hid hlo
    have HO := Lib.hid hown
    have hcw := hc.kp0 hb
    by_cases hlt : k < l.length
    · obtain ⟨b, off, hao, hx, hck⟩ := hcw.byte hlt
      obtain ⟨x, HX⟩ : ∃ x : Int, Hid (x = (l[k].toNat : Int)) := ⟨_, Lib.hid rfl⟩
      rw [← HX.out] at hck
      have hx0 : 0 ≤ x := by have := HX.out; omega
      have hx1 : x < 256 := by have := HX.out; have := u8_lt l[k]; omega
      subst hao
      have hq0 : 0 ≤ x / 16 := by omega
      have hq1 : x / 16 < 16 := by omega
      have hr0 : 0 ≤ x % 16 := by omega
      have hr1 : x % 16 < 16 := by omega
      have hqt : IntKind.u8.wrap (x.tdiv 16) = x / 16 := by rw [Int.tdiv_eq_ediv_of_nonneg hx0]; exact IntWalk.u8_in _ (by omega)
      have hrt : x.tmod 16 = x % 16 := Int.tmod_eq_emod_of_nonneg hx0
      have hsz := hb.size
      have hlk : (hexL (l.take k)).length ≤ 70368744177664 := by rw [hexL_length]; simp; omega
      clear hown hlo
      go_wp2_with fail
      go_region_law (refine step_append2 el_u8 rfl (.tmp 11) (.tmp 24) rfl (B := w.heap.size) rfl rfl (HO.out.kp0 (((Kp.refl [] wr).drew).alloc _)) (rd_lit2 _ _ _ _) (by simp [Value.oneCell']) (by rw [bv_length]; simp; omega) (by rw [bv_length]; simp; omega) (by simp; omega) ?_; intro v2 w2 ho2 hg2 hb2)
      all_goals
        have HB := Lib.hid (((hb.drew).alloc _).grown hg2 (fun g hg => .inr (HO.out.lt hg).1))
        have HO2 := Lib.hid ho2
        clear ho2 hg2 hb2
        go_wp2_with fail
        go_roundw
        case rel =>
          refine ⟨k + 1, by omega, by go_num, ?_, HB.out⟩
          have h := HO2.out
          simp only [hexD_at] at h
          rw [hexL_take l k hlt, bv_append]
          rw [show (x / 16).toNat = l[k].toNat / 16 by rw [HX.out]; omega, show (x % 16).toNat = l[k].toNat % 16 by rw [HX.out]; omega] at h
          exact h
        case measure => simp [intOf]; omega
    · have hkl : k = l.length := by omega
      have hcv : (convert 22 9 (.slice oa ol oc)).run Try.prog wr = .ok (.string (strOf (hexL l))) wr := by
        refine conv_str ?_
        have h := hown.rd
        rwa [List.take_of_length_le (by omega)] at h
      clear hown HO hkl hlo
      go_wp2_with fail
      go_ret
      exact ⟨rfl, hb⟩
end Go.Proofs.Ytkceaepbjdfccaa
