/-
letheref02.padded.
-/
import Derived.Test.YtkceaepbjdfccaaDoorRef7
import Derived.Test.YtkceaepbjdfccaaDoorHalf2
namespace Go.Proofs.YtkceaepbjdfccaaDoor
open Go.RowKit
/-- a slice of bytes of its own, while it grows -/
structure PdM (w wr : World) (l : List Int) (v : Value) : Prop where
  k : Kp [] w wr
  o : Own wr w.heap.size 5 v (iv l)
theorem PdM.kp {w wr w' : World} {l : List Int} {v : Value} (h : PdM w wr l v) (k : Kp [] wr w') : PdM w w' l v := ⟨h.k.trans0 k, h.o.kp0 k⟩
theorem PdM.grow {w wr w5 : World} {l c : List Int} {v v2 : Value} (h : PdM w wr l v) (ho5 : Own w5 w.heap.size 5 v2 (iv l ++ iv c)) (hg5 : wr.grownBy w5 v.ownBlock) : PdM w w5 (l ++ c) v2 := by
  have k1 : Kp v.ownBlock.toList wr w5 := Kp.of_grown hg5 (fun k hk => .inl (by rw [hk]; simp))
  refine ⟨h.k.trans k1 (fun m hm => ?_), by rw [iv_append]; exact ho5⟩
  rw [Option.mem_toList] at hm
  exact .inr (h.o.lt hm).1
theorem PdM.nil (w : World) : PdM w w [] (.slice none 0 0) := ⟨Kp.refl _ _, Own.nil _ _ _⟩
/-- the same, and an array of eight bytes in B -/
structure PQ (w wr : World) (l : List Int) (v : Value) (B : Nat) (ws : List Int) : Prop where
  p : PdM w wr l v
  hB : w.heap.size ≤ B
  hne : ∀ b, v.ownBlock = some b → b ≠ B
  b : wr.heap[B]? = some (.cells (u8s ws) 87 (0, 0))
theorem PQ.set {w wr : World} {l : List Int} {v : Value} {B : Nat} {ws : List Int} (h : PQ w wr l v B ws) (j : Nat) (x : Int) : PQ w (wr.setCell ⟨B, j, none⟩ (.int .u8 x)) l v B (ws.set j x) := by
  have k : Kp [B] wr (wr.setCell ⟨B, j, none⟩ (.int .u8 x)) := (Kp.refl _ wr).setCell (.inl (by simp)) _
  have hB := h.hB
  refine ⟨⟨h.p.k.trans k (fun m hm => by rw [List.mem_singleton] at hm; subst hm; exact .inr hB), h.p.o.kp k (fun b hb => by rw [List.mem_singleton]; exact h.hne b hb)⟩, hB, h.hne, ?_⟩
  rw [← u8s_set]
  exact heap_setCell_same wr B j _ _ (.int .u8 x) h.b
theorem PdM.box {w wr : World} {l : List Int} {v : Value} (h : PdM w wr l v) : PQ w (wr.alloc (.cells (u8s (List.replicate 8 0)) 87)) l v wr.heap.size (List.replicate 8 0) := by
  refine ⟨h.kp ((Kp.refl _ _).alloc _), h.k.size, fun b hb => ?_, heap_alloc_new wr _⟩
  have := (h.o.lt hb).2
  omega
set_option maxRecDepth 100000 in
set_option maxHeartbeats 1000000 in
theorem padded_any (m : List Int) (v : Value) (w : World) (hv : Rd w v (iv m)) (hm : m.length ≤ 1000000) :
    Calls Tryd.prog 83 #[v] w fun e w' => ∃ v', e = .returned v' ∧ PdM w w' (m ++ pad m.length) v' := by
  obtain ⟨ao, cap, rfl⟩ := hv.form
  rw [show (iv m).length = m.length from iv_length m] at hv ⊢
  have HV := Lib.hid hv
  have HP : Hid (m ++ pad m.length = m ++ 128 :: List.replicate (zeros m.length) 0 ++ be8 ((m.length : Int) * 8)) := Lib.hid (by
    rw [Int.mul_comm]; unfold pad; simp)
  generalize m ++ pad m.length = res at *
  have HZ : Hid (zeros m.length ≤ 64) := Lib.hid (by unfold zeros; omega)
  have e64 : IntKind.u64.wrap (m.length : Int) = (m.length : Int) := by rw [IntKind.wrap_u64]; omega
  have e65 : IntKind.u64.wrap ((m.length : Int) * 8) = (m.length : Int) * 8 := by rw [IntKind.wrap_u64]; omega
  clear hv
  go_enter Tryd.func83, Tryd.ntmps83
  go_wp2_with (first
    | (at_builtin; (refine wpl_append el_byt rfl (.const (.slice none 0 0)) (.tmp 7) (by rfl) (by rfl) (by rfl) (Own.nil w w.heap.size 5) HV.out (iv_one _) (by simp [iv_length]; omega) (by simp [iv_length]; omega) (Nat.le_refl _) ?_; intro v1 w1 ho1 hg1; have H1 : Hid (PdM w w1 ([] ++ m) v1) := Lib.hid ((PdM.nil w).grow ho1 hg1); clear ho1 hg1))
    | (at_builtin; go_must (refine wpl_append el_byt rfl (.tmp 9) (.tmp 10) (by rfl) (by rfl) (by rfl) (H1.out.o.kp0 ((Kp.refl [] w1).alloc _)) (rd_lit1 w1 5 _) (by simp [Value.oneCell']) (by simp [iv_length]; omega) (by simp [iv_length]; omega) (by have := H1.out.k.size; simp; omega) ?_; intro v2 w2 ho2 hg2; have H2 : Hid (PdM w w2 ([] ++ m ++ [128]) v2) := Lib.hid ((H1.out.kp ((Kp.refl [] w1).alloc _)).grow ho2 hg2); clear ho2 hg2)))
  have H3 : Hid (PdM w w2 (m ++ 128 :: List.replicate 0 0) v2) := Lib.hid (by have h := H2.out; simpa using h)
  clear H1 H2
  go_loopg [3] (zeros m.length) (fun q v wr => Hid (∃ j, j + q = zeros m.length ∧ PdM w wr (m ++ 128 :: List.replicate j 0) v))
  case atStart => exact Lib.hid ⟨0, by simp, H3.out⟩
  case round =>
    clear H3
    obtain ⟨j, hj, hS⟩ := hrel.out
    obtain ⟨ao3, cap3, hf⟩ := hS.o.rd.form
    have hN : (iv (m ++ 128 :: List.replicate j 0)).length = m.length + 1 + j := by simp [iv_length]; omega
    rw [hN] at hf
    obtain ⟨N, hNN⟩ : ∃ N, N = m.length + 1 + j := ⟨_, rfl⟩
    rw [← hNN] at hf hN
    have HS := Lib.hid hS
    have HN := Lib.hid hN
    have HNN := Lib.hid hNN
    subst hf
    clear hN hS hrel
    by_cases hq : 0 < gk
    · have hb : ((N : Int) % 64 != 56) = true := by
        have : (N : Int) % 64 ≠ 56 := by unfold zeros at hj; omega
        simpa using this
      have HJ := Lib.hid hj
      have hz := HZ.out
      have hn2 : N ≤ 1000100 := by omega
      have HR : Hid (m ++ 128 :: List.replicate j 0 ++ [0] = m ++ 128 :: List.replicate (j + 1) 0) := Lib.hid (by rw [List.replicate_succ']; simp)
      generalize m ++ 128 :: List.replicate j 0 = l at *
      clear hj hNN hz
      go_wp2_with (first
        | (at_builtin; go_must (refine wpl_append el_byt rfl (.tmp 16) (.tmp 17) (by rfl) (by rfl) (by rfl) (HS.out.o.kp0 ((Kp.refl [] wr).alloc _)) (rd_lit1 wr 5 _) (by simp [Value.oneCell']) (by rw [HN.out]; simp; omega) (by rw [HN.out]; simp; omega) (by have := HS.out.k.size; simp; omega) ?_; intro v5 w5 ho5 hg5; have H5 : Hid (PdM w w5 (l ++ [0]) v5) := Lib.hid ((HS.out.kp ((Kp.refl [] wr).alloc _)).grow ho5 hg5); clear ho5 hg5))
        | fail)
      go_roundg (gk - 1)
      case measure => omega
      case rel => exact Lib.hid ⟨j + 1, by have := HJ.out; omega, by rw [← HR.out]; exact H5.out⟩
    · have hb : ((N : Int) % 64 != 56) = false := by
        have : (N : Int) % 64 = 56 := by unfold zeros at hj; omega
        simpa using this
      have hjz : j = zeros m.length := by omega
      subst hjz
      have hz := HZ.out
      have hn2 : N ≤ 1000100 := by omega
      generalize m ++ 128 :: List.replicate (zeros m.length) 0 = l at *
      generalize zeros m.length = zz at *
      have HB0 := Lib.hid (HS.out.box)
      go_wp2_with fail
      obtain ⟨L, hL⟩ : ∃ L : Int, L = (m.length : Int) * 8 := ⟨_, rfl⟩
      rw [← hL] at HP
      have HL0 : Hid (0 ≤ L ∧ L ≤ 8000000) := Lib.hid (by omega)
      try rw [← hL]
      generalize wr.heap.size = B at *
      have HB0 : Hid (PQ w _ l (.slice ao3 N cap3) B (last8 L 0)) := HB0
      clear hL HS hb
      go_loopw [4, 6] (fun x i wv => ∃ t : Nat, t ≤ 8 ∧ i = .int .i64 (7 - (t : Int)) ∧ x = .int .u64 (L / 256 ^ t) ∧ Hid (PQ w wv l (.slice ao3 N cap3) B (last8 L t))) (fun _ i _ => (intOf i + 1).toNat)
      case atStart => exact ⟨0, Nat.zero_le _, rfl, by simp, HB0⟩
      case round =>
        clear HB0
        obtain ⟨t, ht, rfl, rfl, HR⟩ := hrel
        by_cases hlt : t < 8
        · have g0 : (0 : Int) ≤ 7 - (t : Int) := by omega
          have HST : Hid (last8 L (t + 1) = (last8 L t).set (7 - t) (L / 256 ^ t % 256)) := Lib.hid rfl
          have HDM := Lib.hid (div_more L t)
          have c0 : wr.cell? ⟨B, 7 - t, none⟩ = some (.int .u8 ((last8 L t).getD (7 - t) 0)) := by
            rw [cell_of_row _ _ _ _ _ _ HR.out.b, u8s_getD _ _ (by rw [last8_len]; omega)]
          have cf : wr.frozen? ⟨B, 7 - t, none⟩ = false := frozen_of_row wr _ _ _ _ HR.out.b
          have w2 : IntKind.i64.wrap (7 - (t : Int) - 1) = 7 - (t : Int) - 1 := IntWalk.i64_in _ (by omega)
          have n1 : (7 - (t : Int)).toNat = 7 - t := by omega
          have n3 : 7 - (t : Int) < 8 := by omega
          have hv0 : 0 ≤ L / 256 ^ t ∧ L / 256 ^ t ≤ 8000000 := by
            have h := HL0.out
            have hp : (0 : Int) < 256 ^ t := Int.pow_pos (by decide)
            exact ⟨Int.ediv_nonneg h.1 (Int.le_of_lt hp), by have := Int.ediv_le_self (256 ^ t) h.1; omega⟩
          generalize (last8 L t).getD (7 - t) 0 = z at *
          generalize L / 256 ^ t = y at *
          have v1 : IntKind.u8.wrap (y % 256) = y % 256 := by rw [IntKind.wrap_u8]; omega
          have v2 : IntKind.u64.wrap (y / 256) = y / 256 := by rw [IntKind.wrap_u64]; omega
          go_wp2_with fail
          go_roundw
          case rel => exact ⟨t + 1, by omega, by go_num, by rw [← HDM.out], Lib.hid (by rw [HST.out]; exact HR.out.set _ _)⟩
          case measure => simp [intOf]; omega
        · have ht8 : t = 8 := by omega
          subst ht8
          rw [last8_be8] at HR
          have hbl := be8_len L
          generalize be8 L = bb at *
          obtain ⟨x0, x1, x2, x3, x4, x5, x6, x7, rfl⟩ := eight bb hbl
          have c0 : wr.cell? ⟨B, 0, none⟩ = some (.int .u8 x0) := by rw [cell_of_row _ _ _ _ _ _ HR.out.b]; rfl
          have c1 : wr.cell? ⟨B, 1, none⟩ = some (.int .u8 x1) := by rw [cell_of_row _ _ _ _ _ _ HR.out.b]; rfl
          have c2 : wr.cell? ⟨B, 2, none⟩ = some (.int .u8 x2) := by rw [cell_of_row _ _ _ _ _ _ HR.out.b]; rfl
          have c3 : wr.cell? ⟨B, 3, none⟩ = some (.int .u8 x3) := by rw [cell_of_row _ _ _ _ _ _ HR.out.b]; rfl
          have c4 : wr.cell? ⟨B, 4, none⟩ = some (.int .u8 x4) := by rw [cell_of_row _ _ _ _ _ _ HR.out.b]; rfl
          have c5 : wr.cell? ⟨B, 5, none⟩ = some (.int .u8 x5) := by rw [cell_of_row _ _ _ _ _ _ HR.out.b]; rfl
          have c6 : wr.cell? ⟨B, 6, none⟩ = some (.int .u8 x6) := by rw [cell_of_row _ _ _ _ _ _ HR.out.b]; rfl
          have c7 : wr.cell? ⟨B, 7, none⟩ = some (.int .u8 x7) := by rw [cell_of_row _ _ _ _ _ _ HR.out.b]; rfl
          go_wp2_with (first
            | (at_builtin; go_must (refine wpl_append el_byt rfl (.tmp 34) (.tmp 51) (by rfl) (by rfl) (by rfl) (HR.out.p.o.kp0 ((Kp.refl [] wr).alloc _)) ((Own.lit wr 5 #[.int .u8 x0, .int .u8 x1, .int .u8 x2, .int .u8 x3, .int .u8 x4, .int .u8 x5, .int .u8 x6, .int .u8 x7] (Nat.le_refl _) (by simp)).rd) (by simp [Value.oneCell']) (by rw [HN.out]; simp; omega) (by rw [HN.out]; simp; omega) (by have := HR.out.p.k.size; simp; omega) ?_; intro v5 w5 ho5 hg5; have H5 : Hid (PdM w w5 (l ++ [x0, x1, x2, x3, x4, x5, x6, x7]) v5) := Lib.hid ((HR.out.p.kp ((Kp.refl [] wr).alloc _)).grow ho5 hg5); clear ho5 hg5))
            | fail)
          go_ret
          exact ⟨_, rfl, by rw [HP.out]; exact H5.out⟩
end Go.Proofs.YtkceaepbjdfccaaDoor
