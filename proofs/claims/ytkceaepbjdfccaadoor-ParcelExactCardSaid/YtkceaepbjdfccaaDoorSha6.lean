/-
(*sha.Hash).Sum.
-/
import Derived.Test.YtkceaepbjdfccaaDoorSha5
namespace Go.Proofs.YtkceaepbjdfccaaDoor
open Go.RowKit
/-- how many zeros behind the mark -/
def zeros (n : Nat) : Nat := (119 - n % 64) % 64
/-- a number's bytes, the highest first -/
def be8 (L : Int) : List Int := (List.range 8).map fun i => L / 2 ^ (56 - 8 * i) % 256
theorem be8_len (L : Int) : (be8 L).length = 8 := by simp [be8]
theorem be8_get (L : Int) (i : Nat) (h : i < 8) : (be8 L)[i]? = some (L / 2 ^ (56 - 8 * i) % 256) := by
  rw [be8, List.getElem?_map, List.getElem?_range h]; rfl
/-- what is put behind a message of n bytes -/
def pad (n : Nat) : List Int := 128 :: (List.replicate (zeros n) 0 ++ be8 (8 * (n : Int)))
/-- eight words as bytes, so many done -/
def outw (st : List Int) : Nat → List Int
  | 0 => List.replicate 32 0
  | i + 1 => ((((outw st i).set (4 * i) (st.getD i 0 / 16777216 % 256)).set (4 * i + 1) (st.getD i 0 / 65536 % 256)).set (4 * i + 2) (st.getD i 0 / 256 % 256)).set (4 * i + 3) (st.getD i 0 % 256)
theorem outw_len (st : List Int) : ∀ i, (outw st i).length = 32
  | 0 => by simp [outw]
  | i + 1 => by simp [outw, outw_len st i]
/-- the digest of what was handed in -/
def Hs.fin (kk : List Int) (h : Hs) : List Int := outw (h.puts kk (pad h.n)).st 8
theorem Hs.fin_len (kk : List Int) (h : Hs) : (h.fin kk).length = 32 := outw_len _ _
theorem u8s_set (l : List Int) (i : Nat) (x : Int) : (u8s l).setIfInBounds i (.int .u8 x) = u8s (l.set i x) := by
  apply Array.ext'; simp [u8s, List.map_set]
theorem one_u8s (l : List Int) : (u8s l).all (·.oneCell') = true := by
  refine Array.all_eq_true_iff_forall_mem.2 (fun v hv => ?_)
  simp only [u8s, List.mem_toArray, List.mem_map] at hv
  obtain ⟨x, _, rfl⟩ := hv
  rfl
/-- what lies where in a Sum: the copy in c, the result's box in A -/
structure SM (w wr : World) (A c : Nat) (H : Hs) : Prop where
  k : Kp [] w wr
  hA : w.heap.size ≤ A
  hc : A < c
  h : HashAt wr c H
  box : wr.heap[A]? = some (.cells (u8s (List.replicate 32 0)) 25 (0, 0))
theorem SM.drew {w wr : World} {A c : Nat} {H : Hs} (h : SM w wr A c H) : SM w wr.drew A c H := ⟨h.k.drew, h.hA, h.hc, h.h.drew, h.box⟩
/-- the same, and the array that is being filled in B -/
structure SMB (w wr : World) (A c : Nat) (H : Hs) (B : Nat) (l : List Int) : Prop where
  s : SM w wr A c H
  hB : c < B
  b : wr.heap[B]? = some (.cells (u8s l) 25 (0, 0))
theorem SMB.set {w wr : World} {A c : Nat} {H : Hs} {B : Nat} {l : List Int} (h : SMB w wr A c H B l) (j : Nat) (x : Int) : SMB w (wr.setCell ⟨B, j, none⟩ (.int .u8 x)) A c H B (l.set j x) := by
  have k : Kp [B] wr (wr.setCell ⟨B, j, none⟩ (.int .u8 x)) := (Kp.refl _ wr).setCell (.inl (by simp)) _
  have hA := h.s.hA
  have hc := h.s.hc
  have hB := h.hB
  refine ⟨⟨h.s.k.trans k (fun m hm => by rw [List.mem_singleton] at hm; subst hm; exact .inr (by omega)), hA, hc, h.s.h.kp k (by simp; omega), k.heap h.s.box (by simp; omega)⟩, hB, ?_⟩
  rw [← u8s_set]
  exact heap_setCell_same wr B j _ _ (.int .u8 x) h.b
theorem SMB.free {w wr : World} {A c : Nat} {H : Hs} {B : Nat} {l : List Int} (h : SMB w wr A c H B l) (j : Nat) : wr.frozen? ⟨B, j, none⟩ = false := frozen_of_row wr B j _ _ h.b
theorem SM.put {w wr : World} {A c : Nat} {H : Hs} (h : SM w wr A c H) : SMB w (wr.alloc (.cells (u8s (List.replicate 32 0)) 25)) A c H wr.heap.size (List.replicate 32 0) := by
  have hcl : c < wr.heap.size := (Array.getElem?_eq_some_iff.1 h.h.hp).1
  have k0 : Kp [] wr (wr.alloc (.cells (u8s (List.replicate 32 0)) 25)) := (Kp.refl _ _).alloc _
  exact ⟨⟨h.k.trans0 k0, h.hA, h.hc, h.h.kp k0 (by simp), k0.heap h.box (by simp)⟩, hcl, heap_alloc_new wr _⟩
theorem putb_any (kk : List Int) (hkk : kk.length = 64) (w wr : World) (A c : Nat) (H : Hs) (x : Int) {T : TypeId} (fr : Nat × Nat) (hg : w.heap[1]? = some (.cells (u32s kk) T fr)) (hS : SM w wr A c H) (hn : H.n + 1 ≤ 4611686018427387904) :
    Calls Tryd.prog 35 #[.pointer (some ⟨c, 0, none⟩), .slice (some ⟨wr.heap.size, 0, none⟩) 1 1] (wr.alloc (.cells #[.int .u8 x] 5)) fun e w' => e = .returned (.tuple #[]) ∧ SM w w' A c (H.put kk x) := by
  have hlt : 1 < w.heap.size := (Array.getElem?_eq_some_iff.1 hg).1
  have hA := hS.hA
  have hc := hS.hc
  have hcl : c < wr.heap.size := (Array.getElem?_eq_some_iff.1 hS.h.hp).1
  have k0 : Kp [] wr (wr.alloc (.cells #[.int .u8 x] 5)) := (Kp.refl _ _).alloc _
  refine (write_any kk hkk c H (.slice (some ⟨wr.heap.size, 0, none⟩) 1 1) [x] _ fr ((hS.k.trans0 k0).heap hg (by simp)) (by omega) (hS.h.kp k0 (by simp)) (rd_lit1 _ _ _) (fun _ b hb => ?_) hn).mono ?_
  · simp only [Value.ownBlock, Option.some.injEq] at hb
    omega
  · rintro e w' ⟨rfl, h1, h2⟩
    refine ⟨rfl, (hS.k.trans0 k0).trans h1 (fun m hm => ?_), hA, hc, h2, h1.heap (k0.heap hS.box (by simp)) (by simp; omega)⟩
    rw [List.mem_singleton] at hm
    subst hm
    exact .inr (by omega)
theorem copy_at (g : Nat) (hs : Hs) (w : World) (hH : HashAt w g hs) :
    Calls Tryd.prog 60 #[.pointer (some ⟨g, 0, none⟩)] (w.alloc (.cells (u8s (List.replicate 32 0)) 25)) fun e w' => ∃ c, e = .returned (.pointer (some ⟨c, 0, none⟩)) ∧ SM w w' w.heap.size c hs := by
  have k0 : Kp [] w (w.alloc (.cells (u8s (List.replicate 32 0)) 25)) := (Kp.refl [] w).alloc _
  refine (copy_any g hs _ (hH.kp k0 (by simp))).mono ?_
  rintro e w1 ⟨rfl, hk1, hh1, hz1⟩
  exact ⟨_, rfl, k0.trans0 hk1, Nat.le_refl _, by simp, hh1, hk1.heap (heap_alloc_new w _) (by simp)⟩
set_option maxRecDepth 100000 in
set_option maxHeartbeats 1000000 in
theorem sum_any (kk : List Int) (hkk : kk.length = 64) (g : Nat) (hs : Hs) (w : World) {T : TypeId} (fr : Nat × Nat) (hg : w.heap[1]? = some (.cells (u32s kk) T fr)) (hH : HashAt w g hs) (hn : hs.n ≤ 576460752303423488) :
    Calls Tryd.prog 36 #[.pointer (some ⟨g, 0, none⟩)] w fun e w' => e = .returned (.agg (u8s (hs.fin kk))) ∧ Kp [] w w' := by
  have H0 := Lib.hid hH
  have HG := Lib.hid hg
  have HK := Lib.hid hkk
  clear hH hg hkk
  go_enter Tryd.func36, Tryd.ntmps36
  have HC := Lib.hid (copy_at g hs w H0.out)
  have HP : Hid (hs.fin kk = outw (((hs.put kk 128).puts kk (List.replicate (zeros hs.n) 0)).puts kk (be8 (8 * (hs.n : Int)))).st 8) := Lib.hid (by
    rw [← Hs.puts_append]; rfl)
  generalize hs.fin kk = res at *
  go_wp2_with (go_at_call 60; go_must (refine HC.out.mono ?_; rintro e w1 ⟨c, rfl, hS1⟩; have HS1 := Lib.hid hS1; have cn : w1.cell? ⟨g, 72, none⟩ = some (.int .i64 hs.n) := (H0.out.kp hS1.k (by simp)).num; clear hS1))
  generalize w.heap.size = A at *
  have HSS : Hid (∃ w1', w1 = w1') := Lib.hid ⟨_, rfl⟩
  refine (putb_any kk HK.out w w1 A c hs 128 fr HG.out HS1.out (by omega)).mono ?_
  rintro e w2 ⟨rfl, hS2⟩
  have HS2 := Lib.hid hS2
  clear hS2 cn HS1 HSS HC H0
  generalize hQ : hs.put kk 128 = h1 at *
  have HN1 : Hid (h1.n = hs.n + 1) := Lib.hid (by rw [← hQ]; rfl)
  clear hQ
  go_wp2_with fail
  go_loopg [28] (zeros hs.n) (fun q _ wr => Hid (∃ j, j + q = zeros hs.n ∧ SM w wr A c (h1.puts kk (List.replicate j 0))))
  case atStart => exact Lib.hid ⟨0, by simp, HS2.out⟩
  case round =>
    obtain ⟨j, hj, hS⟩ := hrel.out
    obtain ⟨N, hN⟩ : ∃ N, N = (h1.puts kk (List.replicate j 0)).n := ⟨_, rfl⟩
    have hNN : N = hs.n + 1 + j := by rw [hN, Hs.puts_n, HN1.out, List.length_replicate]
    have hc : wr.cell? ⟨c, 72, none⟩ = some (.int .i64 (N : Int)) := by rw [hN]; exact hS.h.num
    have HS := Lib.hid hS
    have HNN := Lib.hid hN
    clear hN hS hrel
    by_cases hq : 0 < gk
    · have hb : ((N : Int) % 64 != 56) = true := by
        have : (N : Int) % 64 ≠ 56 := by unfold zeros at hj; omega
        simpa using this
      have HF := Lib.hid hNN
      have HFJ := Lib.hid hj
      clear hNN hj
      go_wp2_with (go_at_call 35; go_must (refine (putb_any kk HK.out w wr A c _ 0 fr HG.out HS.out (by rw [← HNN.out]; have := HF.out; have := HFJ.out; unfold zeros at this; omega)).mono ?_; rintro e w3 ⟨rfl, hS3⟩; have HS3 := Lib.hid hS3; clear hS3 hc))
      go_roundg (gk - 1)
      case measure => omega
      case rel =>
        refine Lib.hid ⟨j + 1, by have := HFJ.out; omega, ?_⟩
        rw [List.replicate_succ', Hs.puts_append]; exact HS3.out
    · have hb : ((N : Int) % 64 != 56) = false := by
        have : (N : Int) % 64 = 56 := by unfold zeros at hj; omega
        simpa using this
      have hjz : j = zeros hs.n := by omega
      subst hjz
      clear hNN hj
      have hS2n : (h1.puts kk (List.replicate (zeros hs.n) 0)).n = hs.n + 1 + zeros hs.n := by rw [Hs.puts_n, HN1.out, List.length_replicate]
      have hzz : zeros hs.n ≤ 64 := by unfold zeros; omega
      generalize h1.puts kk (List.replicate (zeros hs.n) 0) = h2 at *
      have HS2N := Lib.hid hS2n
      clear hS2n
      go_wp2_with fail
      obtain ⟨L, hL⟩ : ∃ L : Int, L = 8 * (hs.n : Int) := ⟨_, rfl⟩
      have hL0 : 0 ≤ L := by omega
      rw [← hL] at HP
      have HN2 : Hid (h2.n ≤ 4611686018427387000) := Lib.hid (by have := HS2N.out; omega)
      go_loopw [29] (fun i wr => ∃ t : Nat, t ≤ 8 ∧ i = .int .i64 t ∧ Hid (SM w wr A c (h2.puts kk ((be8 L).take t)))) (fun i _ => 8 - (intOf i).toNat)
      case atStart => exact ⟨0, Nat.zero_le _, rfl, HS⟩
      case round =>
        clear HS
        obtain ⟨t, ht, rfl, HS⟩ := hrel
        by_cases hlt : t < 8
        · have hx := be8_get L t hlt
          have hn2 : (h2.puts kk ((be8 L).take t)).n ≤ 4611686018427387000 + 8 := by rw [Hs.puts_n, List.length_take]; have := HN2.out; omega
          have HX : Hid ((be8 L).take (t + 1) = (be8 L).take t ++ [8 * (hs.n : Int) / 2 ^ (56 - 8 * t) % 256]) := Lib.hid (by
            rw [List.take_add_one, hx, hL]; rfl)
          have HLL := Lib.hid hL
          clear hx hL
          go_wp2_with (go_at_call 35; go_must (refine (putb_any kk HK.out w wr A c _ _ fr HG.out HS.out (by omega)).mono ?_; rintro e w3 ⟨rfl, hS3⟩; have HS3 := Lib.hid hS3; clear hS3))
          go_roundw
          case rel => exact ⟨t + 1, by omega, by go_num, Lib.hid (by rw [HX.out, Hs.puts_append]; exact HS3.out)⟩
          case measure => simp [intOf]; omega
        · have ht8 : t = 8 := by omega
          subst ht8
          rw [List.take_of_length_le (by rw [be8_len]; omega)] at HS
          clear HN2 HS2N
          generalize h2.puts kk (be8 L) = h3 at *
          obtain ⟨S, BL, nn⟩ := h3
          obtain ⟨x0, x1, x2, x3, x4, x5, x6, x7, rfl⟩ := eight S HS.out.h.ok.1
          have HB := Lib.hid HS.out.put
          clear HS hL hL0
          obtain ⟨wo, rfl⟩ : ∃ wo : World, wo = wr := ⟨_, rfl⟩
          go_wp2_with (refine wpList_load_mid (by rfl) 126 (.tmp 44) (by rfl) c 0 (by rfl) _ _ HB.out.s.h.st Tryd.underlying126 rfl (by kernel_rfl) ?_)
          generalize wo.heap.size = B at *
          have i0 : ∀ w, (Instr.index 126 (.agg #[Value.int IntKind.u32 x0, Value.int IntKind.u32 x1, Value.int IntKind.u32 x2, Value.int IntKind.u32 x3, Value.int IntKind.u32 x4, Value.int IntKind.u32 x5, Value.int IntKind.u32 x6, Value.int IntKind.u32 x7]) (.int .i64 0)).run Tryd.prog w = .ok (.int .u32 x0) w := fun _ => by kernel_rfl
          have i1 : ∀ w, (Instr.index 126 (.agg #[Value.int IntKind.u32 x0, Value.int IntKind.u32 x1, Value.int IntKind.u32 x2, Value.int IntKind.u32 x3, Value.int IntKind.u32 x4, Value.int IntKind.u32 x5, Value.int IntKind.u32 x6, Value.int IntKind.u32 x7]) (.int .i64 1)).run Tryd.prog w = .ok (.int .u32 x1) w := fun _ => by kernel_rfl
          have i2 : ∀ w, (Instr.index 126 (.agg #[Value.int IntKind.u32 x0, Value.int IntKind.u32 x1, Value.int IntKind.u32 x2, Value.int IntKind.u32 x3, Value.int IntKind.u32 x4, Value.int IntKind.u32 x5, Value.int IntKind.u32 x6, Value.int IntKind.u32 x7]) (.int .i64 2)).run Tryd.prog w = .ok (.int .u32 x2) w := fun _ => by kernel_rfl
          have i3 : ∀ w, (Instr.index 126 (.agg #[Value.int IntKind.u32 x0, Value.int IntKind.u32 x1, Value.int IntKind.u32 x2, Value.int IntKind.u32 x3, Value.int IntKind.u32 x4, Value.int IntKind.u32 x5, Value.int IntKind.u32 x6, Value.int IntKind.u32 x7]) (.int .i64 3)).run Tryd.prog w = .ok (.int .u32 x3) w := fun _ => by kernel_rfl
          have i4 : ∀ w, (Instr.index 126 (.agg #[Value.int IntKind.u32 x0, Value.int IntKind.u32 x1, Value.int IntKind.u32 x2, Value.int IntKind.u32 x3, Value.int IntKind.u32 x4, Value.int IntKind.u32 x5, Value.int IntKind.u32 x6, Value.int IntKind.u32 x7]) (.int .i64 4)).run Tryd.prog w = .ok (.int .u32 x4) w := fun _ => by kernel_rfl
          have i5 : ∀ w, (Instr.index 126 (.agg #[Value.int IntKind.u32 x0, Value.int IntKind.u32 x1, Value.int IntKind.u32 x2, Value.int IntKind.u32 x3, Value.int IntKind.u32 x4, Value.int IntKind.u32 x5, Value.int IntKind.u32 x6, Value.int IntKind.u32 x7]) (.int .i64 5)).run Tryd.prog w = .ok (.int .u32 x5) w := fun _ => by kernel_rfl
          have i6 : ∀ w, (Instr.index 126 (.agg #[Value.int IntKind.u32 x0, Value.int IntKind.u32 x1, Value.int IntKind.u32 x2, Value.int IntKind.u32 x3, Value.int IntKind.u32 x4, Value.int IntKind.u32 x5, Value.int IntKind.u32 x6, Value.int IntKind.u32 x7]) (.int .i64 6)).run Tryd.prog w = .ok (.int .u32 x6) w := fun _ => by kernel_rfl
          have i7 : ∀ w, (Instr.index 126 (.agg #[Value.int IntKind.u32 x0, Value.int IntKind.u32 x1, Value.int IntKind.u32 x2, Value.int IntKind.u32 x3, Value.int IntKind.u32 x4, Value.int IntKind.u32 x5, Value.int IntKind.u32 x6, Value.int IntKind.u32 x7]) (.int .i64 7)).run Tryd.prog w = .ok (.int .u32 x7) w := fun _ => by kernel_rfl
          go_loopw [46] (fun i wx => ∃ t : Nat, t ≤ 8 ∧ i = .int .i64 t ∧ Hid (SMB w wx A c ⟨[x0, x1, x2, x3, x4, x5, x6, x7], BL, nn⟩ B (outw [x0, x1, x2, x3, x4, x5, x6, x7] t))) (fun i _ => 8 - (intOf i).toNat)
          case atStart => exact ⟨0, Nat.zero_le _, rfl, HB⟩
          case round =>
            clear HB
            obtain ⟨t, ht, rfl, HR⟩ := hrel
            by_cases hlt : t < 8
            · have cc : ∀ j, j < 32 → ∃ z : Int, wr.cell? ⟨B, j, none⟩ = some (.int .u8 z) := fun j hj => by
                refine ⟨(outw [x0, x1, x2, x3, x4, x5, x6, x7] t).getD j 0, ?_⟩
                rw [cell_of_row _ _ _ _ _ _ HR.out.b, u8s_getD _ _ (by rw [outw_len]; exact hj)]
              have hj8 : t = 0 ∨ t = 1 ∨ t = 2 ∨ t = 3 ∨ t = 4 ∨ t = 5 ∨ t = 6 ∨ t = 7 := by omega
              rcases hj8 with rfl | rfl | rfl | rfl | rfl | rfl | rfl | rfl
              · obtain ⟨z0, c0⟩ := cc 0 (by decide)
                obtain ⟨z1, c1⟩ := cc 1 (by decide)
                obtain ⟨z2, c2⟩ := cc 2 (by decide)
                obtain ⟨z3, c3⟩ := cc 3 (by decide)
                clear cc
                have f0 := HR.out.free 0
                have f1 := HR.out.free 1
                have f2 := HR.out.free 2
                have f3 := HR.out.free 3
                go_wp2_with fail
                go_roundw
                case rel => exact ⟨1, by decide, rfl, Lib.hid ((((HR.out.set 0 (x0 / 16777216 % 256)).set 1 (x0 / 65536 % 256)).set 2 (x0 / 256 % 256)).set 3 (x0 % 256))⟩
                case measure => simp [intOf]
              · obtain ⟨z0, c0⟩ := cc 4 (by decide)
                obtain ⟨z1, c1⟩ := cc 5 (by decide)
                obtain ⟨z2, c2⟩ := cc 6 (by decide)
                obtain ⟨z3, c3⟩ := cc 7 (by decide)
                clear cc
                have f0 := HR.out.free 4
                have f1 := HR.out.free 5
                have f2 := HR.out.free 6
                have f3 := HR.out.free 7
                go_wp2_with fail
                go_roundw
                case rel => exact ⟨2, by decide, rfl, Lib.hid ((((HR.out.set 4 (x1 / 16777216 % 256)).set 5 (x1 / 65536 % 256)).set 6 (x1 / 256 % 256)).set 7 (x1 % 256))⟩
                case measure => simp [intOf]
              · obtain ⟨z0, c0⟩ := cc 8 (by decide)
                obtain ⟨z1, c1⟩ := cc 9 (by decide)
                obtain ⟨z2, c2⟩ := cc 10 (by decide)
                obtain ⟨z3, c3⟩ := cc 11 (by decide)
                clear cc
                have f0 := HR.out.free 8
                have f1 := HR.out.free 9
                have f2 := HR.out.free 10
                have f3 := HR.out.free 11
                go_wp2_with fail
                go_roundw
                case rel => exact ⟨3, by decide, rfl, Lib.hid ((((HR.out.set 8 (x2 / 16777216 % 256)).set 9 (x2 / 65536 % 256)).set 10 (x2 / 256 % 256)).set 11 (x2 % 256))⟩
                case measure => simp [intOf]
              · obtain ⟨z0, c0⟩ := cc 12 (by decide)
                obtain ⟨z1, c1⟩ := cc 13 (by decide)
                obtain ⟨z2, c2⟩ := cc 14 (by decide)
                obtain ⟨z3, c3⟩ := cc 15 (by decide)
                clear cc
                have f0 := HR.out.free 12
                have f1 := HR.out.free 13
                have f2 := HR.out.free 14
                have f3 := HR.out.free 15
                go_wp2_with fail
                go_roundw
                case rel => exact ⟨4, by decide, rfl, Lib.hid ((((HR.out.set 12 (x3 / 16777216 % 256)).set 13 (x3 / 65536 % 256)).set 14 (x3 / 256 % 256)).set 15 (x3 % 256))⟩
                case measure => simp [intOf]
              · obtain ⟨z0, c0⟩ := cc 16 (by decide)
                obtain ⟨z1, c1⟩ := cc 17 (by decide)
                obtain ⟨z2, c2⟩ := cc 18 (by decide)
                obtain ⟨z3, c3⟩ := cc 19 (by decide)
                clear cc
                have f0 := HR.out.free 16
                have f1 := HR.out.free 17
                have f2 := HR.out.free 18
                have f3 := HR.out.free 19
                go_wp2_with fail
                go_roundw
                case rel => exact ⟨5, by decide, rfl, Lib.hid ((((HR.out.set 16 (x4 / 16777216 % 256)).set 17 (x4 / 65536 % 256)).set 18 (x4 / 256 % 256)).set 19 (x4 % 256))⟩
                case measure => simp [intOf]
              · obtain ⟨z0, c0⟩ := cc 20 (by decide)
                obtain ⟨z1, c1⟩ := cc 21 (by decide)
                obtain ⟨z2, c2⟩ := cc 22 (by decide)
                obtain ⟨z3, c3⟩ := cc 23 (by decide)
                clear cc
                have f0 := HR.out.free 20
                have f1 := HR.out.free 21
                have f2 := HR.out.free 22
                have f3 := HR.out.free 23
                go_wp2_with fail
                go_roundw
                case rel => exact ⟨6, by decide, rfl, Lib.hid ((((HR.out.set 20 (x5 / 16777216 % 256)).set 21 (x5 / 65536 % 256)).set 22 (x5 / 256 % 256)).set 23 (x5 % 256))⟩
                case measure => simp [intOf]
              · obtain ⟨z0, c0⟩ := cc 24 (by decide)
                obtain ⟨z1, c1⟩ := cc 25 (by decide)
                obtain ⟨z2, c2⟩ := cc 26 (by decide)
                obtain ⟨z3, c3⟩ := cc 27 (by decide)
                clear cc
                have f0 := HR.out.free 24
                have f1 := HR.out.free 25
                have f2 := HR.out.free 26
                have f3 := HR.out.free 27
                go_wp2_with fail
                go_roundw
                case rel => exact ⟨7, by decide, rfl, Lib.hid ((((HR.out.set 24 (x6 / 16777216 % 256)).set 25 (x6 / 65536 % 256)).set 26 (x6 / 256 % 256)).set 27 (x6 % 256))⟩
                case measure => simp [intOf]
              · obtain ⟨z0, c0⟩ := cc 28 (by decide)
                obtain ⟨z1, c1⟩ := cc 29 (by decide)
                obtain ⟨z2, c2⟩ := cc 30 (by decide)
                obtain ⟨z3, c3⟩ := cc 31 (by decide)
                clear cc
                have f0 := HR.out.free 28
                have f1 := HR.out.free 29
                have f2 := HR.out.free 30
                have f3 := HR.out.free 31
                go_wp2_with fail
                go_roundw
                case rel => exact ⟨8, by decide, rfl, Lib.hid ((((HR.out.set 28 (x7 / 16777216 % 256)).set 29 (x7 / 65536 % 256)).set 30 (x7 / 256 % 256)).set 31 (x7 % 256))⟩
                case measure => simp [intOf]
            · have ht8 : t = 8 := by omega
              subst ht8
              clear i0 i1 i2 i3 i4 i5 i6 i7
              have hsz : (u8s (outw [x0, x1, x2, x3, x4, x5, x6, x7] 8)).size = 32 := by rw [u8s_size, outw_len]
              have HZ := Lib.hid hsz
              clear hsz
              generalize hO : outw [x0, x1, x2, x3, x4, x5, x6, x7] 8 = O at *
              clear hO
              go_wp2_with (first
                | (refine wpList_load_row (by rfl) 25 (.tmp 6) (by rfl) B (by rfl) 25 (u8s O) (0, 0) _ HR.out.b Tryd.underlying25 rfl (by rw [HZ.out]; kernel_rfl) ?_)
                | (refine wpList_store_row (by rfl) 25 (.tmp 2) (.tmp 77) (by rfl) A (u8s O) (by rfl) (by rfl) 25 _ HR.out.s.box (by rw [HZ.out]; kernel_rfl) (by rw [HZ.out, u8s_size, List.length_replicate]) (one_u8s _) ?_))
              have r2 := setRow_heap wr A _ (u8s O) _ _ HR.out.s.box
              have r1 := HR.out.s.k.trans (kp_setRow wr A (u8s O)) (fun m hm => by rw [List.mem_singleton] at hm; subst hm; exact .inr HR.out.s.hA)
              rw [HP.out]
              exact bodyPost_ret (results_cell_row rfl _ _ A 25 _ (0, 0) _ rfl r2 Tryd.underlying25 rfl (by rw [HZ.out]; kernel_rfl)) rfl ⟨rfl, r1⟩
end Go.Proofs.YtkceaepbjdfccaaDoor
