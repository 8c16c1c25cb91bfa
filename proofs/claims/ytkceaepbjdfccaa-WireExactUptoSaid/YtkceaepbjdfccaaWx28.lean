/-
'WireExact': the walk.
-/
import Derived.Test.YtkceaepbjdfccaaWx27
import Derived.Test.YtkceaepbjdfccaaFrameW
namespace Go.Proofs.Ytkceaepbjdfccaa
open Go.RowKit
theorem range_kpw {w W : World} {b off : Nat} {xs : List Value} (h : w.rangeAt b off xs) (k : Kp [] w W) : W.rangeAt b off xs := fun j v hv => k.cell_some (h j v hv) (by simp)
theorem frm_CM (M : Md) (i : Nat) : Frm (CM M i) := by
  match i with
  | 0 => exact frm_CW _
  | 1 => exact frm_CW _
  | 2 => exact frm_CV _
  | 3 => exact frm_CV _
  | 4 => exact frm_CR _
  | 5 => exact frm_CR _
  | 6 => exact frm_CQ _
  | _ + 7 => exact frm_CQ _
def vs0 : Nat → Value := fun i => if i < 8 then .pointer none else .slice none 0 0
theorem WX.init (w : World) : WX w (w.alloc (.cells #[.pointer none, .pointer none, .pointer none, .pointer none, .pointer none, .pointer none, .pointer none, .pointer none, .slice none 0 0, .slice none 0 0] 92)) (fun b => if b = w.heap.size then 1 else 0) w.heap.size (CM ⟨none, none, none, none⟩) vs0 0 := by
  refine ⟨(Kp.refl [] w).alloc _, fun b hb => ?_, if_pos rfl, ⟨_, heap_alloc_new _ _, rfl, fun i hi => ?_⟩, fun i hi => ?_, fun i _ => frm_CM _ i, ⟨⟨[], [], [], 0, Nat.zero_le _, Own.nil _ _ _, Own.nil _ _ _, ⟨rfl, rfl, fun i x hx => by simp at hx⟩, rfl⟩, (fun b hb => by cases hb), (fun b hb => by cases hb)⟩⟩
  · by_cases h : b = w.heap.size
    · subst h; simp
    · rw [if_neg h] at hb; exact absurd rfl hb
  · match i, hi with
    | 0, _ => rfl
    | 1, _ => rfl
    | 2, _ => rfl
    | 3, _ => rfl
    | 4, _ => rfl
    | 5, _ => rfl
    | 6, _ => rfl
    | 7, _ => rfl
    | 8, _ => rfl
    | 9, _ => rfl
    | k + 10, h => omega
  · match i, hi with
    | 0, _ => rfl
    | 1, _ => rfl
    | 2, _ => rfl
    | 3, _ => rfl
    | 4, _ => rfl
    | 5, _ => rfl
    | 6, _ => rfl
    | 7, _ => rfl
    | k + 8, h => omega
/-- while the first writers and readers are made -/
def L1 (w0 w : World) (t k : Nat) : Prop :=
  ∃ M o vs n, WX w0 w o t (CM M) vs n ∧ n ≤ 4 * k ∧ (1 ≤ k → (∃ m, M.w0 = some m) ∧ ∃ m, M.r0 = some m) ∧ (2 ≤ k → (∃ m, M.w1 = some m) ∧ ∃ m, M.r1 = some m)
/-- while the script is played -/
def L2 (w0 w : World) (t k : Nat) : Prop := ∃ M o vs n, Full M ∧ WX w0 w o t (CM M) vs n ∧ n ≤ 8 + 2 * k
theorem hex_a0 : strOf (hexL [160]) = ⟨#[97, 48]⟩ := by rfl
set_option maxRecDepth 100000 in
set_option maxHeartbeats 4000000 in
theorem wireExact_any (ao : Option Addr) (cap : Nat) (Fs : List WOp) (w : World) (hS : WOps w ao Fs) (hl : Fs.length ≤ 1048576) :
    Calls Try.prog 9 #[.slice ao Fs.length cap] w fun e w' => e = .returned (.bool true) ∧ Kp [] w w' := by
  have HS := Lib.hid hS
  obtain ⟨n, hn⟩ : ∃ n, Fs.length = n := ⟨_, rfl⟩
  have HN := Lib.hid hn
  rw [hn]
  have hn1 : n ≤ 1048576 := by rw [← hn]; exact hl
  have HX0 : Hid (L1 w (w.alloc (.cells #[.pointer none, .pointer none, .pointer none, .pointer none, .pointer none, .pointer none, .pointer none, .pointer none, .slice none 0 0, .slice none 0 0] 92)) w.heap.size 0) := Lib.hid ⟨_, _, _, _, WX.init w, Nat.zero_le _, fun h => absurd h (by omega), fun h => absurd h (by omega)⟩
  clear hS hn hl
  go_enter Try.func9, Try.ntmps9
  go_upto_region 2 with fail
  generalize w.alloc (.cells #[.pointer none, .pointer none, .pointer none, .pointer none, .pointer none, .pointer none, .pointer none, .pointer none, .slice none 0 0, .slice none 0 0] 92) = w1 at *
  generalize w.heap.size = t at *
  go_wp2_with fail
  go_loopw [4] (fun i wr => ∃ k : Nat, k ≤ 2 ∧ i = .int .i64 k ∧ Hid (L1 w wr t k)) (fun i _ => 2 - (intOf i).toNat)
  case atStart => exact ⟨0, by omega, rfl, HX0⟩
  case round =>
    clear HX0
    obtain ⟨k, hk, rfl, HR⟩ := hrel
    by_cases h0 : k = 0
    · subst h0
      obtain ⟨M, o, vs, m, hx, hm, hM, _⟩ := HR.out
      have HM := Lib.hid hM
      have HW : Hid (Calls Try.prog 44 #[.pointer (some ⟨t, 0, none⟩), .agg #[.int .i64 5, .int .i64 0, .int .i64 40, .slice none 0 0, .slice none 0 0, .string ⟨#[]⟩]] wr (Stp w t { M with w0 := some ⟨40, ([], 0)⟩ } m)) := Lib.hid (writes_5_0y w wr o t M vs m hx (by omega) 0 40 [] [] none none 0 0 ⟨#[]⟩ ⟨Rd.nil _, fun h => absurd rfl h⟩ ⟨Rd.nil _, fun h => absurd rfl h⟩ (by decide) (by decide) (by decide) (by decide) (by decide))
      clear hx hM
      go_wp2_with (first
        | (go_at_call 44; ((refine HW.out.mono ?_); rintro e w3 ⟨rfl, o3, vs3, m3, hx3, hm3⟩; have HX3 := Lib.hid hx3; have HR3 : Hid (Calls Try.prog 45 #[.pointer (some ⟨t, 0, none⟩), .agg #[.int .i64 12, .int .i64 0, .int .i64 0, .slice (some ⟨w3.heap.size, 0, none⟩) 3 3, .slice none 0 0, .string ⟨#[]⟩]] (w3.alloc (.cells #[.int .u8 1, .int .u8 2, .int .u8 3] 5)) (Stp w t { { M with w0 := some ⟨40, ([], 0)⟩ } with r0 := some ⟨[1, 2, 3], ⟨0, 0, 0⟩⟩ } m3)) := Lib.hid (reads_12_0 w _ o3 t { M with w0 := some ⟨40, ([], 0)⟩ } vs3 m3 (HX3.out.kp0 ((Kp.refl [] w3).alloc _)) (by omega) 0 0 [1, 2, 3] (some ⟨w3.heap.size, 0, none⟩) 3 (.slice none 0 0) ⟨#[]⟩ (by decide) ⟨rd_lit3 w3 5 (.int .u8 1) (.int .u8 2) (.int .u8 3), fun _ b hb => by (have h1 : some w3.heap.size = some b := mem_ob.1 hb; injection h1 with h1; subst h1; exact HX3.out.new (Nat.le_refl _))⟩ (by decide)); clear hx3))
        | (go_at_call 45; ((refine HR3.out.mono ?_); rintro e w5 ⟨rfl, o5, vs5, m5, hx5, hm5⟩; obtain ⟨pw, _, _, hv, _⟩ := hx5.oW 0 (by omega) rfl; obtain ⟨pr, _, _, hu, _⟩ := hx5.oR 4 (by omega) rfl; have c0 := hx5.cell 0 (by omega); have c4 := hx5.cell 4 (by omega); rw [hv] at c0; rw [hu] at c4; have HX5 := Lib.hid hx5; clear hx5 hv hu))
        | fail)
      go_roundw
      case rel => exact ⟨1, by omega, by go_num, Lib.hid ⟨_, o5, vs5, m5, HX5.out, by omega, fun _ => ⟨⟨_, rfl⟩, ⟨_, rfl⟩⟩, fun h => absurd h (by omega)⟩⟩
      case measure => simp [intOf]
    by_cases h1 : k = 1
    · subst h1
      obtain ⟨M, o, vs, m, hx, hm, hM, _⟩ := HR.out
      have HM := Lib.hid hM
      have HW : Hid (Calls Try.prog 44 #[.pointer (some ⟨t, 0, none⟩), .agg #[.int .i64 5, .int .i64 1, .int .i64 40, .slice none 0 0, .slice none 0 0, .string ⟨#[]⟩]] wr (Stp w t { M with w1 := some ⟨40, ([], 0)⟩ } m)) := Lib.hid (writes_5_1y w wr o t M vs m hx (by omega) 1 40 [] [] none none 0 0 ⟨#[]⟩ ⟨Rd.nil _, fun h => absurd rfl h⟩ ⟨Rd.nil _, fun h => absurd rfl h⟩ (by decide) (by decide) (by decide) (by decide) (by decide))
      clear hx hM
      go_wp2_with (first
        | (go_at_call 44; ((refine HW.out.mono ?_); rintro e w3 ⟨rfl, o3, vs3, m3, hx3, hm3⟩; have HX3 := Lib.hid hx3; have HR3 : Hid (Calls Try.prog 45 #[.pointer (some ⟨t, 0, none⟩), .agg #[.int .i64 12, .int .i64 1, .int .i64 0, .slice (some ⟨w3.heap.size, 0, none⟩) 3 3, .slice none 0 0, .string ⟨#[]⟩]] (w3.alloc (.cells #[.int .u8 1, .int .u8 2, .int .u8 3] 5)) (Stp w t { { M with w1 := some ⟨40, ([], 0)⟩ } with r1 := some ⟨[1, 2, 3], ⟨0, 0, 0⟩⟩ } m3)) := Lib.hid (reads_12_1 w _ o3 t { M with w1 := some ⟨40, ([], 0)⟩ } vs3 m3 (HX3.out.kp0 ((Kp.refl [] w3).alloc _)) (by omega) 1 0 [1, 2, 3] (some ⟨w3.heap.size, 0, none⟩) 3 (.slice none 0 0) ⟨#[]⟩ (by decide) ⟨rd_lit3 w3 5 (.int .u8 1) (.int .u8 2) (.int .u8 3), fun _ b hb => by (have h1 : some w3.heap.size = some b := mem_ob.1 hb; injection h1 with h1; subst h1; exact HX3.out.new (Nat.le_refl _))⟩ (by decide)); clear hx3))
        | (go_at_call 45; ((refine HR3.out.mono ?_); rintro e w5 ⟨rfl, o5, vs5, m5, hx5, hm5⟩; obtain ⟨pw, _, _, hv, _⟩ := hx5.oW 1 (by omega) rfl; obtain ⟨pr, _, _, hu, _⟩ := hx5.oR 5 (by omega) rfl; have c0 := hx5.cell 1 (by omega); have c4 := hx5.cell 5 (by omega); rw [hv] at c0; rw [hu] at c4; have HX5 := Lib.hid hx5; clear hx5 hv hu))
        | fail)
      go_roundw
      case rel => exact ⟨2, by omega, by go_num, Lib.hid ⟨_, o5, vs5, m5, HX5.out, by omega, fun _ => HM.out (by omega), fun _ => ⟨⟨_, rfl⟩, ⟨_, rfl⟩⟩⟩⟩
      case measure => simp [intOf]
    obtain rfl : k = 2 := by omega
    have HX2 : Hid (L2 w wr t 0) := by
      obtain ⟨M, o, vs, m, hx, hm, hM1, hM2⟩ := HR.out
      exact Lib.hid ⟨M, o, vs, m, ⟨(hM1 (by omega)).1, (hM2 (by omega)).1, (hM1 (by omega)).2, (hM2 (by omega)).2⟩, hx, by omega⟩
    clear HR h0 h1
    rename World => wl
    have e2 : ((2 : Nat) : Int) = 2 := rfl
    rw [e2]
    clear e2
    go_wp2_with fail
    go_loopw [6] (fun i wr => ∃ k : Nat, k ≤ n ∧ k ≤ 100 ∧ i = .int .i64 k ∧ Hid (L2 w wr t k)) (fun i _ => n - (intOf i).toNat)
    case atStart => exact ⟨0, Nat.zero_le _, Nat.zero_le _, rfl, HX2⟩
    case round =>
      clear HX2
      obtain ⟨k, hk, hk100, rfl, HR⟩ := hrel
      obtain ⟨M, o, vs, m, hF, hx, hm⟩ := HR.out
      by_cases hlt : k < n ∧ k < 100
      · obtain ⟨P, hP⟩ : ∃ P, Fs[k]? = some P := ⟨_, List.getElem?_eq_getElem (by rw [HN.out]; exact hlt.1)⟩
        obtain ⟨b, off, rfl, hrg, hrb, hrc, hok⟩ := HS.out k P hP
        obtain ⟨ba, bq, hbv⟩ := hrb.form
        obtain ⟨ca, cq, hcv⟩ := hrc.form
        rw [bv_length] at hbv hcv
        rw [hbv] at hrb
        rw [hcv] at hrc
        have hrg2 := range_kpw hrg hx.kp
        unfold WOp.cl at hrg2
        rw [hbv, hcv] at hrg2
        have HRG := Lib.hid hrg2
        have HSP := Lib.hid (plays_any w wr o t M vs m hx (by omega) P.kind P.which P.n P.bs P.cs ba ca bq cq P.s (Inp.of hrb hx) (Inp.of hrc hx) hok.b hok.c hok.s hF)
        have hkI : (k : Int) < (n : Int) := by omega
        have hkJ : (k : Int) < 100 := by omega
        clear hrg hrg2 hrb hrc hok hP hbv hcv hx hF
        generalize P.kind = pk at *
        generalize P.which = pi at *
        generalize P.n = pn at *
        generalize P.bs = lb at *
        generalize P.cs = lc at *
        generalize P.s = ps at *
        go_wp2_with (first
          | ((with_reducible refine wpList_load_mid ?sa1 95 (.tmp 58) ?sa2 b (off + k * 6) ?sa3 [.int .i64 pk, .int .i64 pi, .int .i64 pn, .slice ba lb.length bq, .slice ca lc.length cq, .string ps] ?sa4 ?sa5 ?sa6 ?sa7 ?sa8 ?sa9); (case sa1 => rfl); (case sa2 => rfl); (case sa3 => rfl); (case sa5 => exact HRG.out); (case sa6 => exact Try.underlying95); (case sa7 => rfl); (case sa8 => kernel_rfl))
          | (go_at_call 46; ((refine HSP.out.mono ?_); rintro e w4 ⟨rfl, M4, o4, vs4, m4, hF4, hx4, hm4⟩; have HX4 := Lib.hid (And.intro hF4 hx4); clear hF4 hx4))
          | (go_at_call 47; ((refine (holdsX HX4.out.2 (by omega)).mono ?_); rintro e w5 ⟨rfl, j, hj⟩; have HX5 := Lib.hid (show WX w w5 o4 t (CM M4) vs4 m4 from by (rw [hj]; exact HX4.out.2.kp0 ((Kp.refl [] w4).drewN j))); clear hj))
          | fail)
        go_roundw
        case rel => exact ⟨k + 1, by omega, by omega, by go_num, Lib.hid ⟨M4, o4, vs4, m4, HX4.out.1, HX5.out, by omega⟩⟩
        case measure => simp [intOf]; omega
      · obtain ⟨_, _, ⟨q0, hq0⟩, ⟨q1, hq1⟩⟩ := hF
        have HQ1 := Lib.hid hq1
        have HT0 : Hid (Calls Try.prog 45 #[.pointer (some ⟨t, 0, none⟩), .agg #[.int .i64 19, .int .i64 0, .int .i64 0, .slice none 0 0, .slice none 0 0, .string ⟨#[]⟩]] wr (Stp w t M m)) := Lib.hid (reads_19_0 w wr o t M vs m hx (by omega) 0 0 [] none 0 (.slice none 0 0) ⟨#[]⟩ (by decide) q0 hq0)
        clear hq0 hq1 hx
        by_cases hkn : k < n
        · have hkI : (k : Int) < (n : Int) := by omega
          have hkJ : ¬ (k : Int) < 100 := by omega
          clear hlt hkn
          go_wp2_with (first
            | (go_at_call 45; ((with_reducible refine HT0.out.mono ?_); rintro e w3 ⟨rfl, o3, vs3, m3, hx3, hm3⟩; have HX3 := Lib.hid hx3; have HT1 : Hid (Calls Try.prog 45 #[.pointer (some ⟨t, 0, none⟩), .agg #[.int .i64 19, .int .i64 1, .int .i64 0, .slice none 0 0, .slice none 0 0, .string ⟨#[]⟩]] w3 (Stp w t M m3)) := Lib.hid (reads_19_1 w w3 o3 t M vs3 m3 HX3.out (by omega) 1 0 [] none 0 (.slice none 0 0) ⟨#[]⟩ (by decide) q1 HQ1.out); clear hx3))
            | (go_at_call 45; ((with_reducible refine HT1.out.mono ?_); rintro e w4 ⟨rfl, o4, vs4, m4, hx4, hm4⟩; have HX4 := Lib.hid hx4; clear hx4))
            | (go_at_call 10; ((refine (hex_any _ [160] _ (by decide) (rd_lit1 w4 5 (.int .u8 160))).mono ?_); rintro e w5 ⟨rfl, k5⟩; rw [hex_a0]; have HK5 := Lib.hid (HX4.out.kp.trans0 (((Kp.refl [] w4).alloc _).trans0 k5)); clear k5))
            | fail)
          go_ret
          exact ⟨rfl, HK5.out⟩
        · have hkI : ¬ (k : Int) < (n : Int) := by omega
          clear hlt hkn
          go_wp2_with (first
            | (go_at_call 45; ((with_reducible refine HT0.out.mono ?_); rintro e w3 ⟨rfl, o3, vs3, m3, hx3, hm3⟩; have HX3 := Lib.hid hx3; have HT1 : Hid (Calls Try.prog 45 #[.pointer (some ⟨t, 0, none⟩), .agg #[.int .i64 19, .int .i64 1, .int .i64 0, .slice none 0 0, .slice none 0 0, .string ⟨#[]⟩]] w3 (Stp w t M m3)) := Lib.hid (reads_19_1 w w3 o3 t M vs3 m3 HX3.out (by omega) 1 0 [] none 0 (.slice none 0 0) ⟨#[]⟩ (by decide) q1 HQ1.out); clear hx3))
            | (go_at_call 45; ((with_reducible refine HT1.out.mono ?_); rintro e w4 ⟨rfl, o4, vs4, m4, hx4, hm4⟩; have HX4 := Lib.hid hx4; clear hx4))
            | (go_at_call 10; ((refine (hex_any _ [160] _ (by decide) (rd_lit1 w4 5 (.int .u8 160))).mono ?_); rintro e w5 ⟨rfl, k5⟩; rw [hex_a0]; have HK5 := Lib.hid (HX4.out.kp.trans0 (((Kp.refl [] w4).alloc _).trans0 k5)); clear k5))
            | fail)
          go_ret
          exact ⟨rfl, HK5.out⟩
end Go.Proofs.Ytkceaepbjdfccaa
