/-
letheref02.Block.
-/
import Derived.Test.YtkceaepbjdfccaaDoorRef3
namespace Go.Proofs.YtkceaepbjdfccaaDoor
open Go.RowKit
/-- what lies where, while a block is taken in -/
structure BM (w W : World) (A B : Nat) (st bl vs : List Int) : Prop where
  k : Kp [] w W
  hA : w.heap.size ≤ A
  hB : A + 2 < B
  h0 : W.heap[A]? = some (.cells (u32s st) 126 (0, 0))
  h2 : W.heap[A + 1 + 1]? = some (.cells (u32s (List.replicate 8 0)) 126 (0, 0))
  h3 : W.heap[B]? = some (.cells (u64s (sch2 bl 48)) 168 (0, 0))
  h4 : W.heap[B + 1]? = some (.cells (u64s vs) 167 (0, 0))
theorem BM.drew {w W : World} {A B : Nat} {st bl vs : List Int} (h : BM w W A B st bl vs) : BM w W.drew A B st bl vs := ⟨h.k.drew, h.hA, h.hB, h.h0, h.h2, h.h3, h.h4⟩
theorem BM.drewN {w W : World} {A B : Nat} {st bl vs : List Int} (h : BM w W A B st bl vs) (n : Nat) : BM w (W.drewN n) A B st bl vs := ⟨h.k.drewN n, h.hA, h.hB, h.h0, h.h2, h.h3, h.h4⟩
theorem BM.setV {w W : World} {A B : Nat} {st bl vs : List Int} (h : BM w W A B st bl vs) (j : Nat) (x : Int) : BM w (W.setCell ⟨B + 1, j, none⟩ (.int .u64 x)) A B st bl (vs.set j x) := by
  have k : Kp [B + 1] W (W.setCell ⟨B + 1, j, none⟩ (.int .u64 x)) := (Kp.refl _ W).setCell (.inl (by simp)) _
  have hA := h.hA
  have hB := h.hB
  refine ⟨h.k.trans k (fun m hm => by rw [List.mem_singleton] at hm; subst hm; exact .inr (by omega)), hA, hB, k.heap h.h0 (by simp; omega), k.heap h.h2 (by simp; omega), k.heap h.h3 (by simp), ?_⟩
  rw [← u64s_set]
  exact heap_setCell_same W _ j _ _ (.int .u64 x) h.h4
theorem BM.setS {w W : World} {A B : Nat} {st bl vs : List Int} (h : BM w W A B st bl vs) (j : Nat) (x : Int) : BM w (W.setCell ⟨A, j, none⟩ (.int .u32 x)) A B (st.set j x) bl vs := by
  have k : Kp [A] W (W.setCell ⟨A, j, none⟩ (.int .u32 x)) := (Kp.refl _ W).setCell (.inl (by simp)) _
  have hA := h.hA
  have hB := h.hB
  refine ⟨h.k.trans k (fun m hm => by rw [List.mem_singleton] at hm; subst hm; exact .inr (by omega)), hA, hB, ?_, k.heap h.h2 (by simp; omega), k.heap h.h3 (by simp; omega), k.heap h.h4 (by simp; omega)⟩
  rw [← u32s_set]
  exact heap_setCell_same W _ j _ _ (.int .u32 x) h.h0
theorem bm_lay0 (w wN : World) (S8 S64 Z8 Y64 Y8 X64 : Array Value) (hN : Kp [] (((w.alloc (.cells S8 126)).alloc (.cells S64 127)).alloc (.cells Z8 126)) wN) :
    ∃ W3, W3 = (((wN.alloc (.cells Y64 168)).setRow wN.heap.size X64).alloc (.cells Y8 167)) ∧ Kp [] w W3 ∧ w.heap.size + 2 < wN.heap.size ∧ W3.heap[w.heap.size]? = some (.cells S8 126) ∧ W3.heap[w.heap.size + 1 + 1]? = some (.cells Z8 126) ∧
      W3.heap[wN.heap.size]? = some (.cells X64 168) ∧ W3.heap[wN.heap.size + 1]? = some (.cells Y8 167) := by
  obtain ⟨r0, _, r2⟩ := three_rows w (.cells S8 126) (.cells S64 127) (.cells Z8 126)
  have k0 : Kp [] w (((w.alloc (.cells S8 126)).alloc (.cells S64 127)).alloc (.cells Z8 126)) := (((Kp.refl [] w).alloc _).alloc _).alloc _
  have hz : w.heap.size + 3 ≤ wN.heap.size := by have := hN.size; simp at this; omega
  have k1 : Kp [] wN (wN.alloc (.cells Y64 168)) := (Kp.refl [] wN).alloc _
  have k2 : Kp [wN.heap.size] (wN.alloc (.cells Y64 168)) ((wN.alloc (.cells Y64 168)).setRow wN.heap.size X64) := ⟨rfl, rfl, rfl, by simp, fun j _ hn => setRow_other _ _ _ _ (by simpa using hn)⟩
  have k12 : Kp [] wN ((wN.alloc (.cells Y64 168)).setRow wN.heap.size X64) := k1.trans k2 (fun m hm => by rw [List.mem_singleton] at hm; subst hm; exact .inr (Nat.le_refl _))
  have s3 : ((wN.alloc (.cells Y64 168)).setRow wN.heap.size X64).heap[wN.heap.size]? = some (.cells X64 168) := setRow_heap _ _ _ _ _ _ (heap_alloc_new wN (.cells Y64 168))
  have hs2 : ((wN.alloc (.cells Y64 168)).setRow wN.heap.size X64).heap.size = wN.heap.size + 1 := by simp
  generalize (wN.alloc (.cells Y64 168)).setRow wN.heap.size X64 = W2 at *
  have kN := hN.trans0 k12
  have s4 := heap_alloc_new W2 (.cells Y8 167)
  rw [hs2] at s4
  have k3 : Kp [] W2 (W2.alloc (.cells Y8 167)) := (Kp.refl [] W2).alloc _
  have kA := kN.trans0 k3
  exact ⟨_, rfl, k0.trans0 kA, by omega, kA.heap r0 (by simp), kA.heap r2 (by simp), k3.heap s3 (by simp), s4⟩
theorem bm_lay (w wN : World) (st bl : List Int) (hN : Kp [] (((w.alloc (.cells (u32s st) 126)).alloc (.cells (u8s bl) 127)).alloc (.cells (u32s (List.replicate 8 0)) 126)) wN) :
    BM w (((wN.alloc (.cells (u64s (List.replicate 64 0)) 168)).setRow wN.heap.size (u64s (sch2 bl 48))).alloc (.cells (u64s (List.replicate 8 0)) 167)) w.heap.size wN.heap.size st bl (List.replicate 8 0) := by
  obtain ⟨W3, h, h1, h2, h3, h4, h5, h6⟩ := bm_lay0 w wN _ _ _ (u64s (List.replicate 64 0)) (u64s (List.replicate 8 0)) (u64s (sch2 bl 48)) hN
  rw [← h]
  exact ⟨h1, Nat.le_refl _, h2, h3, h4, h5, h6⟩
theorem BM.res {w W : World} {A B : Nat} {st bl vs : List Int} (h : BM w W A B st bl vs) (cs : Array Value) : Kp [] w (W.setRow (A + 1 + 1) cs) ∧ (W.setRow (A + 1 + 1) cs).heap[A + 1 + 1]? = some (.cells cs 126 (0, 0)) := by
  have hA := h.hA
  have k : Kp [A + 1 + 1] W (W.setRow (A + 1 + 1) cs) := ⟨rfl, rfl, rfl, by simp, fun j _ hn => setRow_other _ _ _ _ (by simpa using hn)⟩
  exact ⟨h.k.trans k (fun m hm => by rw [List.mem_singleton] at hm; subst hm; exact .inr (by omega)), setRow_heap W _ _ _ _ _ h.h2⟩
/-- the eight words, so many laid -/
def lay8 (st : List Int) : Nat → List Int
  | 0 => List.replicate 8 0
  | i + 1 => (lay8 st i).set i (st.getD i 0)
theorem lay8_len (st : List Int) : ∀ i, (lay8 st i).length = 8
  | 0 => by simp [lay8]
  | i + 1 => by rw [lay8, List.length_set]; exact lay8_len st i
/-- the eight words, so many of them moved on by one -/
def down (l : List Int) : Nat → List Int
  | 0 => l
  | j + 1 => (down l j).set (7 - j) ((down l j).getD (7 - j - 1) 0)
theorem down_len (l : List Int) : ∀ j, (down l j).length = l.length
  | 0 => rfl
  | j + 1 => by rw [down, List.length_set]; exact down_len l j
theorem rounds_W (kk ws : List Int) {s : St8} (h : s.W) : ∀ t, (rounds kk ws s t).W
  | 0 => h
  | t + 1 => (rounds_W kk ws h t).step _ _
set_option maxRecDepth 100000 in
set_option maxHeartbeats 1000000 in
theorem block_any (st bl kk : List Int) (hst : st.length = 8) (hs32 : ∀ x ∈ st, W32 x) (hbl : bl.length = 64) (hb8 : ∀ x ∈ bl, B8 x) (hkk : kk.length = 64) (hk32 : ∀ x ∈ kk, W32 x) (w : World) {T : TypeId} (fr : Nat × Nat)
    (hg : w.heap[3]? = some (.cells (u64s kk) T fr)) :
    Calls Tryd.prog 85 #[.agg (u32s st), .agg (u8s bl)] w fun e w' => e = .returned (.agg (u32s (comp kk st bl))) ∧ Kp [] w w' := by
  have HC : Hid (comp kk st bl = fin8 st (St8.l (rounds kk (sch2 bl 48) ⟨st.getD 0 0, st.getD 1 0, st.getD 2 0, st.getD 3 0, st.getD 4 0, st.getD 5 0, st.getD 6 0, st.getD 7 0⟩ 64)) 8) := Lib.hid rfl
  generalize comp kk st bl = res at *
  have HS := Lib.hid hst
  have HB := Lib.hid hbl
  have HK := Lib.hid hkk
  have HS32 := Lib.hid hs32
  have HK32 := Lib.hid hk32
  have HSC := Lib.hid (fun W => schedule_any bl hbl hb8 W)
  have HZB : Hid ((u8s bl).size = 64) := Lib.hid (by rw [u8s_size, hbl])
  have HG : Hid (∀ w', Kp [] w w' → w'.heap[3]? = some (.cells (u64s kk) T fr)) := Lib.hid (fun w' k => k.heap hg (by simp))
  have hzs : (u64s (sch2 bl 48)).size = 64 := by rw [u64s_size, sch2_len]
  have HZS := Lib.hid hzs
  clear hst hbl hkk hg hs32 hk32 hzs hb8
  have h0 := three_rows w (.cells (u32s st) 126) (.cells (u8s bl) 127) (.cells (u32s (List.replicate 8 0)) 126)
  have k0 : Kp [] w (((w.alloc (.cells (u32s st) 126)).alloc (.cells (u8s bl) 127)).alloc (.cells (u32s (List.replicate 8 0)) 126)) := (((Kp.refl [] w).alloc _).alloc _).alloc _
  have h0b := h0.2.1
  go_enter Tryd.func85, Tryd.ntmps85
  go_upto_block 0 with (first
    | (refine wpList_load_row (by rfl) 127 (.tmp 3) (by rfl) (w.heap.size + 1) (by rfl) 127 (u8s bl) (0, 0) _ h0b Tryd.underlying127 rfl (by rw [HZB.out]; kernel_rfl) ?_)
    | (go_at_call 91; (with_reducible refine (HSC.out _).mono ?_); rintro _ wN ⟨rfl, hN⟩)
    | (refine wpList_store_row (by rfl) 168 (.tmp 5) (.tmp 20) (by rfl) wN.heap.size (u64s (sch2 bl 48)) (by rfl) (by rfl) 168 (u64s (List.replicate 64 0)) (heap_alloc_new wN _) (by rw [HZS.out]; kernel_rfl) (by rw [HZS.out]; rfl) (one_u64s _) ?_))
  have HM := Lib.hid (bm_lay w wN st bl hN)
  clear hN HSC HZB HZS h0b h0 k0
  generalize hA : w.heap.size = A at *
  generalize hWB : wN.heap.size = B at *
  have HM : Hid (BM w _ A B st bl (List.replicate 8 0)) := HM
  clear hA hWB
  go_cut [7] (fun _ w' => Hid (BM w w' A B st bl (lay8 st 8)))
  case first =>
    go_wp2_with fail
    go_loopw [7] (fun i wr => ∃ t : Nat, t ≤ 8 ∧ i = .int .i64 t ∧ Hid (BM w wr A B st bl (lay8 st t))) (fun i _ => 8 - (intOf i).toNat)
    case atStart => exact ⟨0, Nat.zero_le _, rfl, HM⟩
    case round =>
      obtain ⟨t, ht, rfl, HR⟩ := hrel
      by_cases hlt : t < 8
      · have hltI : (t : Int) < 8 := by omega
        have c0 : wr.cell? ⟨A, t, none⟩ = some (.int .u32 (st.getD t 0)) := by
          rw [cell_of_row _ _ _ _ _ _ HR.out.h0, u32s_getD _ _ (by rw [HS.out]; omega)]
        have c1 : wr.cell? ⟨B + 1, t, none⟩ = some (.int .u64 ((lay8 st t).getD t 0)) := by
          rw [cell_of_row _ _ _ _ _ _ HR.out.h4, u64s_getD _ _ (by rw [lay8_len]; omega)]
        have cf : wr.frozen? ⟨B + 1, t, none⟩ = false := frozen_of_row wr _ t _ _ HR.out.h4
        have HST : Hid (lay8 st (t + 1) = (lay8 st t).set t (st.getD t 0)) := Lib.hid rfl
        have hx := w32_getD HS32.out t
        generalize st.getD t 0 = x at *
        generalize (lay8 st t).getD t 0 = y at *
        unfold W32 at hx
        have v1 : IntKind.u64.wrap x = x := by rw [IntKind.wrap_u64]; omega
        go_wp2_with fail
        go_roundw
        case rel => exact ⟨t + 1, by omega, by go_num, Lib.hid (by rw [HST.out]; exact HR.out.setV t x)⟩
        case measure => simp [intOf]; omega
      · have ht8 : t = 8 := by omega
        subst ht8
        go_wp2_with fail
        go_meet
        exact HR
  case rest =>
    have HM2 := Lib.hid hcut.out
    clear hcut HM
    have hW0 : St8.W ⟨st.getD 0 0, st.getD 1 0, st.getD 2 0, st.getD 3 0, st.getD 4 0, st.getD 5 0, st.getD 6 0, st.getD 7 0⟩ := ⟨w32_getD HS32.out 0, w32_getD HS32.out 1, w32_getD HS32.out 2, w32_getD HS32.out 3, w32_getD HS32.out 4, w32_getD HS32.out 5, w32_getD HS32.out 6, w32_getD HS32.out 7⟩
    have HM3 : Hid (BM w wc A B st bl (St8.l ⟨st.getD 0 0, st.getD 1 0, st.getD 2 0, st.getD 3 0, st.getD 4 0, st.getD 5 0, st.getD 6 0, st.getD 7 0⟩)) := HM2
    clear HM2
    generalize (⟨st.getD 0 0, st.getD 1 0, st.getD 2 0, st.getD 3 0, st.getD 4 0, st.getD 5 0, st.getD 6 0, st.getD 7 0⟩ : St8) = s0 at *
    have HRW := Lib.hid (rounds_W kk (sch2 bl 48) hW0)
    clear hW0
    go_upto_block 2 with fail
    go_cut [8] (fun _ w' => Hid (BM w w' A B st bl (St8.l (rounds kk (sch2 bl 48) s0 64))))
    case first =>
      go_wp2_with fail
      go_loopw [8] (fun i wr => ∃ t : Nat, t ≤ 64 ∧ i = .int .i64 t ∧ Hid (BM w wr A B st bl (St8.l (rounds kk (sch2 bl 48) s0 t)))) (fun i _ => 64 - (intOf i).toNat)
      case atStart => exact ⟨0, Nat.zero_le _, rfl, HM3⟩
      case round =>
        obtain ⟨t, ht, rfl, HR⟩ := hrel
        by_cases hlt : t < 64
        · have hltI : (t : Int) < 64 := by omega
          have HST := Lib.hid (show rounds kk (sch2 bl 48) s0 (t + 1) = (rounds kk (sch2 bl 48) s0 t).step (kk.getD t 0) ((sch2 bl 48).getD t 0) from rfl)
          have hW := HRW.out t
          generalize rounds kk (sch2 bl 48) s0 t = s at *
          obtain ⟨a, b, c, d, e, f, g, h⟩ := s
          have HRS := Lib.hid (fun k x => r_step hW k x)
          have ck : wr.cell? ⟨3, t, none⟩ = some (.int .u64 (kk.getD t 0)) := by
            rw [cell_of_row _ _ _ _ _ _ (HG.out wr HR.out.k), u64s_getD _ _ (by rw [HK.out]; omega)]
          have cx : wr.cell? ⟨B, t, none⟩ = some (.int .u64 ((sch2 bl 48).getD t 0)) := by
            rw [cell_of_row _ _ _ _ _ _ HR.out.h3, u64s_getD _ _ (by rw [sch2_len]; omega)]
          have hkr := w32_getD HK32.out t
          have hxr := w32_getD (w32_sch2 bl 48) t
          generalize kk.getD t 0 = kt at *
          generalize (sch2 bl 48).getD t 0 = xt at *
          have c0 : wr.cell? ⟨B + 1, 0, none⟩ = some (.int .u64 a) := by rw [cell_of_row _ _ _ _ _ _ HR.out.h4]; rfl
          have c1 : wr.cell? ⟨B + 1, 1, none⟩ = some (.int .u64 b) := by rw [cell_of_row _ _ _ _ _ _ HR.out.h4]; rfl
          have c2 : wr.cell? ⟨B + 1, 2, none⟩ = some (.int .u64 c) := by rw [cell_of_row _ _ _ _ _ _ HR.out.h4]; rfl
          have c3 : wr.cell? ⟨B + 1, 3, none⟩ = some (.int .u64 d) := by rw [cell_of_row _ _ _ _ _ _ HR.out.h4]; rfl
          have c4 : wr.cell? ⟨B + 1, 4, none⟩ = some (.int .u64 e) := by rw [cell_of_row _ _ _ _ _ _ HR.out.h4]; rfl
          have c5 : wr.cell? ⟨B + 1, 5, none⟩ = some (.int .u64 f) := by rw [cell_of_row _ _ _ _ _ _ HR.out.h4]; rfl
          have c6 : wr.cell? ⟨B + 1, 6, none⟩ = some (.int .u64 g) := by rw [cell_of_row _ _ _ _ _ _ HR.out.h4]; rfl
          have c7 : wr.cell? ⟨B + 1, 7, none⟩ = some (.int .u64 h) := by rw [cell_of_row _ _ _ _ _ _ HR.out.h4]; rfl
          have Ha2 : Hid (∀ W, Calls Tryd.prog 92 #[.int .i64 2, .int .u64 a] W fun en w' => en = .returned (.int .u64 (turns a 2)) ∧ W = w') := Lib.hid (fun W => turn_any 2 a (by decide) hW.a.1 hW.a.2 W)
          have Ha13 : Hid (∀ W, Calls Tryd.prog 92 #[.int .i64 13, .int .u64 a] W fun en w' => en = .returned (.int .u64 (turns a 13)) ∧ W = w') := Lib.hid (fun W => turn_any 13 a (by decide) hW.a.1 hW.a.2 W)
          have Ha22 : Hid (∀ W, Calls Tryd.prog 92 #[.int .i64 22, .int .u64 a] W fun en w' => en = .returned (.int .u64 (turns a 22)) ∧ W = w') := Lib.hid (fun W => turn_any 22 a (by decide) hW.a.1 hW.a.2 W)
          have He6 : Hid (∀ W, Calls Tryd.prog 92 #[.int .i64 6, .int .u64 e] W fun en w' => en = .returned (.int .u64 (turns e 6)) ∧ W = w') := Lib.hid (fun W => turn_any 6 e (by decide) hW.e.1 hW.e.2 W)
          have He11 : Hid (∀ W, Calls Tryd.prog 92 #[.int .i64 11, .int .u64 e] W fun en w' => en = .returned (.int .u64 (turns e 11)) ∧ W = w') := Lib.hid (fun W => turn_any 11 e (by decide) hW.e.1 hW.e.2 W)
          have He25 : Hid (∀ W, Calls Tryd.prog 92 #[.int .i64 25, .int .u64 e] W fun en w' => en = .returned (.int .u64 (turns e 25)) ∧ W = w') := Lib.hid (fun W => turn_any 25 e (by decide) hW.e.1 hW.e.2 W)
          unfold W32 at hkr hxr
          have ra : W32 a := hW.a
          have re : W32 e := hW.e
          have rh : W32 h := hW.h
          have rg : W32 g := hW.g
          unfold W32 at ra re rh rg
          have n32 : W32 (4294967295 - e) := ⟨by omega, by omega⟩
          have r1 : W32 (bits .xor .u64 (bits .xor .u64 (turns e 6) (turns e 11)) (turns e 25)) := by rw [sig3 hW.e 6 11 25 (by decide) (by decide) (by decide)]; exact w32_bits _ _ _
          have r2 : W32 (bits .xor .u64 (bits .and .u64 e f) (bits .and .u64 (4294967295 - e) g)) := by rw [a64 hW.e hW.f, a64 n32 hW.g, x64 (w32_bits _ _ _) (w32_bits _ _ _)]; exact w32_bits _ _ _
          have r3 : W32 (bits .xor .u64 (bits .xor .u64 (turns a 2) (turns a 13)) (turns a 22)) := by rw [sig3 hW.a 2 13 22 (by decide) (by decide) (by decide)]; exact w32_bits _ _ _
          have r4 : W32 (bits .xor .u64 (bits .xor .u64 (bits .and .u64 a b) (bits .and .u64 a c)) (bits .and .u64 b c)) := by rw [a64 hW.a hW.b, a64 hW.a hW.c, a64 hW.b hW.c, x64 (w32_bits _ _ _) (w32_bits _ _ _), x64 (w32_bits _ _ _) (w32_bits _ _ _)]; exact w32_bits _ _ _
          unfold W32 at r1 r2 r3 r4
          have v0 : IntKind.u64.wrap (4294967295 - e) = 4294967295 - e := by rw [IntKind.wrap_u64]; omega
          have v1 : IntKind.u64.wrap (h + bits .xor .u64 (bits .xor .u64 (turns e 6) (turns e 11)) (turns e 25)) = h + bits .xor .u64 (bits .xor .u64 (turns e 6) (turns e 11)) (turns e 25) := by rw [IntKind.wrap_u64]; omega
          have v2 : IntKind.u64.wrap (h + bits .xor .u64 (bits .xor .u64 (turns e 6) (turns e 11)) (turns e 25) + bits .xor .u64 (bits .and .u64 e f) (bits .and .u64 (4294967295 - e) g)) = h + bits .xor .u64 (bits .xor .u64 (turns e 6) (turns e 11)) (turns e 25) + bits .xor .u64 (bits .and .u64 e f) (bits .and .u64 (4294967295 - e) g) := by rw [IntKind.wrap_u64]; omega
          have v3 : IntKind.u64.wrap (h + bits .xor .u64 (bits .xor .u64 (turns e 6) (turns e 11)) (turns e 25) + bits .xor .u64 (bits .and .u64 e f) (bits .and .u64 (4294967295 - e) g) + kt) = h + bits .xor .u64 (bits .xor .u64 (turns e 6) (turns e 11)) (turns e 25) + bits .xor .u64 (bits .and .u64 e f) (bits .and .u64 (4294967295 - e) g) + kt := by rw [IntKind.wrap_u64]; omega
          have v4 : IntKind.u64.wrap (h + bits .xor .u64 (bits .xor .u64 (turns e 6) (turns e 11)) (turns e 25) + bits .xor .u64 (bits .and .u64 e f) (bits .and .u64 (4294967295 - e) g) + kt + xt) = h + bits .xor .u64 (bits .xor .u64 (turns e 6) (turns e 11)) (turns e 25) + bits .xor .u64 (bits .and .u64 e f) (bits .and .u64 (4294967295 - e) g) + kt + xt := by rw [IntKind.wrap_u64]; omega
          have v5 : IntKind.u64.wrap (bits .xor .u64 (bits .xor .u64 (turns a 2) (turns a 13)) (turns a 22) + bits .xor .u64 (bits .xor .u64 (bits .and .u64 a b) (bits .and .u64 a c)) (bits .and .u64 b c)) = bits .xor .u64 (bits .xor .u64 (turns a 2) (turns a 13)) (turns a 22) + bits .xor .u64 (bits .xor .u64 (bits .and .u64 a b) (bits .and .u64 a c)) (bits .and .u64 b c) := by rw [IntKind.wrap_u64]; omega
          go_wp2_with fail
          go_quiet (fail)
          have HR2 := Lib.hid (HR.out.drewN nq)
          have ck' : (wr.drewN nq).cell? ⟨3, t, none⟩ = some (.int .u64 kt) := ck
          have cx' : (wr.drewN nq).cell? ⟨B, t, none⟩ = some (.int .u64 xt) := cx
          clear HR ck cx c0 c1 c2 c3 c4 c5 c6 c7
          generalize wr.drewN nq = wz at *
          have c0 : wz.cell? ⟨B + 1, 0, none⟩ = some (.int .u64 a) := by rw [cell_of_row _ _ _ _ _ _ HR2.out.h4]; rfl
          have c1 : wz.cell? ⟨B + 1, 1, none⟩ = some (.int .u64 b) := by rw [cell_of_row _ _ _ _ _ _ HR2.out.h4]; rfl
          have c2 : wz.cell? ⟨B + 1, 2, none⟩ = some (.int .u64 c) := by rw [cell_of_row _ _ _ _ _ _ HR2.out.h4]; rfl
          have c3 : wz.cell? ⟨B + 1, 3, none⟩ = some (.int .u64 d) := by rw [cell_of_row _ _ _ _ _ _ HR2.out.h4]; rfl
          have c4 : wz.cell? ⟨B + 1, 4, none⟩ = some (.int .u64 e) := by rw [cell_of_row _ _ _ _ _ _ HR2.out.h4]; rfl
          have c5 : wz.cell? ⟨B + 1, 5, none⟩ = some (.int .u64 f) := by rw [cell_of_row _ _ _ _ _ _ HR2.out.h4]; rfl
          have c6 : wz.cell? ⟨B + 1, 6, none⟩ = some (.int .u64 g) := by rw [cell_of_row _ _ _ _ _ _ HR2.out.h4]; rfl
          have c7 : wz.cell? ⟨B + 1, 7, none⟩ = some (.int .u64 h) := by rw [cell_of_row _ _ _ _ _ _ HR2.out.h4]; rfl
          go_wp2_with (first
            | (go_at_call 92; (with_reducible refine (Ha2.out _).mono ?_); rintro _ w' ⟨rfl, rfl⟩)
            | (go_at_call 92; (with_reducible refine (Ha13.out _).mono ?_); rintro _ w' ⟨rfl, rfl⟩)
            | (go_at_call 92; (with_reducible refine (Ha22.out _).mono ?_); rintro _ w' ⟨rfl, rfl⟩)
            | (go_at_call 92; (with_reducible refine (He6.out _).mono ?_); rintro _ w' ⟨rfl, rfl⟩)
            | (go_at_call 92; (with_reducible refine (He11.out _).mono ?_); rintro _ w' ⟨rfl, rfl⟩)
            | (go_at_call 92; (with_reducible refine (He25.out _).mono ?_); rintro _ w' ⟨rfl, rfl⟩))
          go_quiet (fail)
          have HR3 := Lib.hid (HR2.out.drewN nq)
          clear HR2 ck' cx' c0 c1 c2 c3 c4 c5 c6 c7
          generalize wz.drewN nq = wy at *
          go_wp2_with fail
          go_loopw [17] (fun i wv => ∃ j : Nat, j ≤ 7 ∧ i = .int .i64 ((7 - j : Nat) : Int) ∧ Hid (BM w wv A B st bl (down (St8.l ⟨a, b, c, d, e, f, g, h⟩) j))) (fun i _ => (intOf i).toNat)
          case atStart => exact ⟨0, Nat.zero_le _, rfl, HR3⟩
          case round =>
            clear HR3
            obtain ⟨j, hj, rfl, HR⟩ := hrel
            obtain ⟨n, hn⟩ : ∃ n, n = 7 - j := ⟨_, rfl⟩
            rw [← hn]
            by_cases hlj : j < 7
            · have g0 : (0 : Int) < (n : Int) := by omega
              have g1 : 0 < n := by omega
              have e1 : wr.cell? ⟨B + 1, n - 1, none⟩ = some (.int .u64 ((down (St8.l ⟨a, b, c, d, e, f, g, h⟩) j).getD (n - 1) 0)) := by
                rw [cell_of_row _ _ _ _ _ _ HR.out.h4, u64s_getD _ _ (by rw [down_len]; show n - 1 < 8; omega)]
              have e2 : wr.cell? ⟨B + 1, n, none⟩ = some (.int .u64 ((down (St8.l ⟨a, b, c, d, e, f, g, h⟩) j).getD n 0)) := by
                rw [cell_of_row _ _ _ _ _ _ HR.out.h4, u64s_getD _ _ (by rw [down_len]; show n < 8; omega)]
              have ef : wr.frozen? ⟨B + 1, n, none⟩ = false := frozen_of_row wr _ n _ _ HR.out.h4
              have HDN : Hid (down (St8.l ⟨a, b, c, d, e, f, g, h⟩) (j + 1) = (down (St8.l ⟨a, b, c, d, e, f, g, h⟩) j).set n ((down (St8.l ⟨a, b, c, d, e, f, g, h⟩) j).getD (n - 1) 0)) := Lib.hid (by rw [hn]; rfl)
              have m1 : IntKind.i64.wrap ((n : Int) - 1) = (n : Int) - 1 := IntWalk.i64_in _ (by omega)
              have m2 : ((n : Int) - 1).toNat = n - 1 := by omega
              have m3 : (0 : Int) ≤ (n : Int) - 1 := by omega
              have m4 : (n : Int) - 1 < 8 := by omega
              have m5 : (n : Int) < 8 := by omega
              have m6 : (1 : Int) ≤ (n : Int) := by omega
              have HN := Lib.hid hn
              clear hn
              generalize (down (St8.l ⟨a, b, c, d, e, f, g, h⟩) j).getD (n - 1) 0 = y1 at *
              generalize (down (St8.l ⟨a, b, c, d, e, f, g, h⟩) j).getD n 0 = y2 at *
              go_wp2_with fail
              go_roundw
              case rel => exact ⟨j + 1, by omega, by have := HN.out; simp; omega, Lib.hid (by rw [HDN.out]; exact HR.out.setV n y1)⟩
              case measure => simp [intOf]; omega
            · have g0 : ¬ (0 : Int) < (n : Int) := by omega
              have g1 : ¬ 0 < n := by omega
              have g2 : n = 0 := by omega
              obtain rfl : j = 7 := by omega
              have e4 : wr.cell? ⟨B + 1, 4, none⟩ = some (.int .u64 d) := by rw [cell_of_row _ _ _ _ _ _ HR.out.h4]; rfl
              have e0 : wr.cell? ⟨B + 1, 0, none⟩ = some (.int .u64 a) := by rw [cell_of_row _ _ _ _ _ _ HR.out.h4]; rfl
              have f4 : wr.frozen? ⟨B + 1, 4, none⟩ = false := frozen_of_row wr _ 4 _ _ HR.out.h4
              have f0 : wr.frozen? ⟨B + 1, 0, none⟩ = false := frozen_of_row wr _ 0 _ _ HR.out.h4
              have rd : W32 d := hW.d
              unfold W32 at rd
              have v6 : IntKind.u64.wrap (d + (h + bits .xor .u64 (bits .xor .u64 (turns e 6) (turns e 11)) (turns e 25) + bits .xor .u64 (bits .and .u64 e f) (bits .and .u64 (4294967295 - e) g) + kt + xt)) = d + (h + bits .xor .u64 (bits .xor .u64 (turns e 6) (turns e 11)) (turns e 25) + bits .xor .u64 (bits .and .u64 e f) (bits .and .u64 (4294967295 - e) g) + kt + xt) := by rw [IntKind.wrap_u64]; omega
              have v7 : IntKind.u64.wrap (h + bits .xor .u64 (bits .xor .u64 (turns e 6) (turns e 11)) (turns e 25) + bits .xor .u64 (bits .and .u64 e f) (bits .and .u64 (4294967295 - e) g) + kt + xt + (bits .xor .u64 (bits .xor .u64 (turns a 2) (turns a 13)) (turns a 22) + bits .xor .u64 (bits .xor .u64 (bits .and .u64 a b) (bits .and .u64 a c)) (bits .and .u64 b c))) = h + bits .xor .u64 (bits .xor .u64 (turns e 6) (turns e 11)) (turns e 25) + bits .xor .u64 (bits .and .u64 e f) (bits .and .u64 (4294967295 - e) g) + kt + xt + (bits .xor .u64 (bits .xor .u64 (turns a 2) (turns a 13)) (turns a 22) + bits .xor .u64 (bits .xor .u64 (bits .and .u64 a b) (bits .and .u64 a c)) (bits .and .u64 b c)) := by rw [IntKind.wrap_u64]; omega
              clear hn g2
              go_wp2_with fail
              go_roundw
              case rel => exact ⟨t + 1, by omega, by go_num, Lib.hid (by rw [HST.out, HRS.out]; exact (HR.out.setV 4 _).setV 0 _)⟩
              case measure => simp [intOf]; omega
        · have ht64 : t = 64 := by omega
          subst ht64
          go_wp2_with fail
          go_meet
          exact HR
    case rest =>
      have HM4 := Lib.hid hcut.out
      clear hcut HM3
      have hW := HRW.out 64
      have hvW : ∀ x ∈ St8.l (rounds kk (sch2 bl 48) s0 64), W32 x := by
        generalize rounds kk (sch2 bl 48) s0 64 = s at *
        intro x hx
        simp only [St8.l, List.mem_cons, List.not_mem_nil, or_false] at hx
        rcases hx with rfl | rfl | rfl | rfl | rfl | rfl | rfl | rfl
        · exact hW.a
        · exact hW.b
        · exact hW.c
        · exact hW.d
        · exact hW.e
        · exact hW.f
        · exact hW.g
        · exact hW.h
      have hvl : (St8.l (rounds kk (sch2 bl 48) s0 64)).length = 8 := rfl
      clear hW HRW
      generalize St8.l (rounds kk (sch2 bl 48) s0 64) = v at *
      have HVW := Lib.hid hvW
      have HVL := Lib.hid hvl
      clear hvW hvl
      have HFW : Hid (∀ j, ∀ x ∈ fin8 st v j, W32 x) := Lib.hid (fun j => by
        induction j with
        | zero => exact HS32.out
        | succ j ih => exact w32_set ih (w32_mod _) j)
      go_wp2_with fail
      go_loopw [18] (fun i wr => ∃ j : Nat, j ≤ 8 ∧ i = .int .i64 j ∧ Hid (BM w wr A B (fin8 st v j) bl v)) (fun i _ => 8 - (intOf i).toNat)
      case atStart => exact ⟨0, Nat.zero_le _, rfl, HM4⟩
      case round =>
        obtain ⟨j, hj, rfl, HR⟩ := hrel
        by_cases hlt : j < 8
        · have hltI : (j : Int) < 8 := by omega
          have c0 : wr.cell? ⟨A, j, none⟩ = some (.int .u32 ((fin8 st v j).getD j 0)) := by
            rw [cell_of_row _ _ _ _ _ _ HR.out.h0, u32s_getD _ _ (by rw [fin8_len, HS.out]; omega)]
          have c1 : wr.cell? ⟨B + 1, j, none⟩ = some (.int .u64 (v.getD j 0)) := by
            rw [cell_of_row _ _ _ _ _ _ HR.out.h4, u64s_getD _ _ (by rw [HVL.out]; omega)]
          have cf : wr.frozen? ⟨A, j, none⟩ = false := frozen_of_row wr _ j _ _ HR.out.h0
          have HST : Hid (fin8 st v (j + 1) = (fin8 st v j).set j (((fin8 st v j).getD j 0 + v.getD j 0) % 4294967296)) := Lib.hid rfl
          have rx := w32_getD (HFW.out j) j
          have ry := w32_getD HVW.out j
          generalize (fin8 st v j).getD j 0 = x at *
          generalize v.getD j 0 = y at *
          unfold W32 at rx ry
          have v1 : IntKind.u64.wrap x = x := by rw [IntKind.wrap_u64]; omega
          have v2 : IntKind.u64.wrap (x + y) = x + y := by rw [IntKind.wrap_u64]; omega
          go_wp2_with fail
          go_still_tail 12, (by kernel_rfl)
          go_wp2_with fail
          go_roundw
          case rel => exact ⟨j + 1, by omega, by go_num, Lib.hid (by rw [HST.out]; exact (HR.out.setS j _).drew)⟩
          case measure => simp [intOf]; omega
        · have hj8 : j = 8 := by omega
          subst hj8
          have hsz : (u32s (fin8 st v 8)).size = 8 := by rw [u32s_size, fin8_len, HS.out]
          have HZ := Lib.hid hsz
          clear hsz HFW
          go_wp2_with (first | (refine wpList_load_row (by rfl) 126 (.tmp 2) (by rfl) A (by rfl) 126 (u32s (fin8 st v 8)) (0, 0) _ HR.out.h0 Tryd.underlying126 rfl (by rw [HZ.out]; kernel_rfl) ?_) | (refine wpList_store_row (by rfl) 126 (.tmp 4) (.tmp 134) (by rfl) (A + 1 + 1) (u32s (fin8 st v 8)) (by rfl) (by rfl) 126 _ HR.out.h2 (by rw [HZ.out]; kernel_rfl) (by rw [HZ.out, u32s_size, List.length_replicate]) (one_u32s _) ?_))
          obtain ⟨r1, r2⟩ := HR.out.res (u32s (fin8 st v 8))
          rw [HC.out]
          exact bodyPost_ret (results_cell_row rfl _ _ (A + 1 + 1) 126 _ (0, 0) _ rfl r2 Tryd.underlying126 rfl (by rw [HZ.out]; kernel_rfl)) rfl ⟨rfl, r1⟩
end Go.Proofs.YtkceaepbjdfccaaDoor
