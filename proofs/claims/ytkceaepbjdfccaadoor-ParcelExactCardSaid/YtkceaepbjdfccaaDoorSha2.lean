/-
sha.Compress.
-/
import Derived.Test.YtkceaepbjdfccaaDoorSha1
import Derived.StillTailTactics
import Derived.Deep.CutBlock
import Derived.Deep.DeepCutAuto
namespace Go.Proofs.YtkceaepbjdfccaaDoor
open Go.RowKit
def u32s (l : List Int) : Array Value := (l.map (Value.int .u32)).toArray
def u8s (l : List Int) : Array Value := (l.map (Value.int .u8)).toArray
theorem u32s_size (l : List Int) : (u32s l).size = l.length := by simp [u32s]
theorem u8s_size (l : List Int) : (u8s l).size = l.length := by simp [u8s]
theorem u8s_getD (l : List Int) (i : Nat) (h : i < l.length) : (u8s l)[i]? = some (.int .u8 (l.getD i 0)) := by rw [u8s, List.getElem?_toArray, List.getElem?_map, List.getElem?_eq_getElem h, List.getD_eq_getElem?_getD, List.getElem?_eq_getElem h]; rfl
theorem u32s_getD (l : List Int) (i : Nat) (h : i < l.length) : (u32s l)[i]? = some (.int .u32 (l.getD i 0)) := by rw [u32s, List.getElem?_toArray, List.getElem?_map, List.getElem?_eq_getElem h, List.getD_eq_getElem?_getD, List.getElem?_eq_getElem h]; rfl
theorem u32s_get (l : List Int) (i : Nat) (h : i < l.length) : (u32s l)[i]? = some (.int .u32 l[i]) := by simp [u32s, h]
theorem u8s_get (l : List Int) (i : Nat) (h : i < l.length) : (u8s l)[i]? = some (.int .u8 l[i]) := by simp [u8s, h]
theorem u32s_set (l : List Int) (i : Nat) (x : Int) : (u32s l).setIfInBounds i (.int .u32 x) = u32s (l.set i x) := by
  apply Array.ext'; simp [u32s, List.map_set]
/-- four bytes as a number -/
def word (a b c d : Int) : Int := bits .or .u32 (bits .or .u32 (bits .or .u32 (a % 4294967296 * 16777216 % 4294967296) (b % 4294967296 * 65536 % 4294967296)) (c % 4294967296 * 256 % 4294967296)) (d % 4294967296)
/-- the schedule behind so many words -/
def sch1 (bl : List Int) : Nat → List Int
  | 0 => List.replicate 64 0
  | t + 1 => (sch1 bl t).set t (word (bl.getD (4 * t) 0) (bl.getD (4 * t + 1) 0) (bl.getD (4 * t + 2) 0) (bl.getD (4 * t + 3) 0))
theorem sch1_len (bl : List Int) : ∀ t, (sch1 bl t).length = 64
  | 0 => by simp [sch1]
  | t + 1 => by rw [sch1, List.length_set]; exact sch1_len bl t
theorem four_rows (w : World) (a b c d : Obj) : (((((w.alloc a).alloc b).alloc c).alloc d).heap[w.heap.size]? = some a) ∧ (((((w.alloc a).alloc b).alloc c).alloc d).heap[w.heap.size + 1]? = some b) ∧
    (((((w.alloc a).alloc b).alloc c).alloc d).heap[w.heap.size + 1 + 1]? = some c) ∧ (((((w.alloc a).alloc b).alloc c).alloc d).heap[w.heap.size + 1 + 1 + 1]? = some d) := by
  have e1 : (w.alloc a).heap.size = w.heap.size + 1 := by simp
  have e2 : ((w.alloc a).alloc b).heap.size = w.heap.size + 1 + 1 := by simp
  have e3 : (((w.alloc a).alloc b).alloc c).heap.size = w.heap.size + 1 + 1 + 1 := by simp
  have r0 := heap_alloc_new w a
  have r1 := heap_alloc_new (w.alloc a) b
  have r2 := heap_alloc_new ((w.alloc a).alloc b) c
  have r3 := heap_alloc_new (((w.alloc a).alloc b).alloc c) d
  rw [e1] at r1
  rw [e2] at r2
  rw [e3] at r3
  refine ⟨?_, ?_, ?_, r3⟩
  · rw [heap_alloc_old _ d (by rw [e3]; omega), heap_alloc_old _ c (by rw [e2]; omega), heap_alloc_old _ b (by rw [e1]; omega)]; exact r0
  · rw [heap_alloc_old _ d (by rw [e3]; omega), heap_alloc_old _ c (by rw [e2]; omega)]; exact r1
  · rw [heap_alloc_old _ d (by rw [e3]; omega)]; exact r2
/-- a word of the schedule behind the sixteenth -/
def mix (x y p q : Int) : Int := (bits .xor .u32 (bits .xor .u32 (ror 17 y) (ror 19 y)) (y / 1024) + p + bits .xor .u32 (bits .xor .u32 (ror 7 x) (ror 18 x)) (x / 8) + q) % 4294967296
/-- the schedule behind so many words more -/
def sch2 (bl : List Int) : Nat → List Int
  | 0 => sch1 bl 16
  | k + 1 => (sch2 bl k).set (k + 16) (mix ((sch2 bl k).getD (k + 16 - 15) 0) ((sch2 bl k).getD (k + 16 - 2) 0) ((sch2 bl k).getD (k + 16 - 7) 0) ((sch2 bl k).getD (k + 16 - 16) 0))
theorem sch2_len (bl : List Int) : ∀ k, (sch2 bl k).length = 64
  | 0 => sch1_len bl 16
  | k + 1 => by rw [sch2, List.length_set]; exact sch2_len bl k
/-- the eight words while a block is compressed -/
structure St8 where
  a : Int
  b : Int
  c : Int
  d : Int
  e : Int
  f : Int
  g : Int
  h : Int
def St8.t1 (s : St8) (k x : Int) : Int := (((s.h + bits .xor .u32 (bits .xor .u32 (ror 6 s.e) (ror 11 s.e)) (ror 25 s.e)) % 4294967296 + bits .xor .u32 (bits .and .u32 s.e s.f) (bits .and .u32 (bits .xor .u32 IntKind.u32.max s.e) s.g)) % 4294967296 + k) % 4294967296 + x
def St8.t2 (s : St8) : Int := (bits .xor .u32 (bits .xor .u32 (ror 2 s.a) (ror 13 s.a)) (ror 22 s.a) + bits .xor .u32 (bits .xor .u32 (bits .and .u32 s.a s.b) (bits .and .u32 s.a s.c)) (bits .and .u32 s.b s.c)) % 4294967296
/-- one round -/
def St8.step (s : St8) (k x : Int) : St8 := ⟨(s.t1 k x % 4294967296 + s.t2) % 4294967296, s.a, s.b, s.c, (s.d + s.t1 k x % 4294967296) % 4294967296, s.e, s.f, s.g⟩
/-- so many rounds -/
def rounds (kk ws : List Int) (s : St8) : Nat → St8
  | 0 => s
  | t + 1 => (rounds kk ws s t).step (kk.getD t 0) (ws.getD t 0)
theorem right_at (n x : Int) (h0 : 1 ≤ n) (h1 : n ≤ 31) (w : World) :
    Calls Tryd.prog 82 #[.int .i64 n, .int .u32 x] w fun e w' => e = .returned (.int .u32 (ror n x)) ∧ w' = w :=
  (right_any n x h0 h1 w).mono fun _ _ h => ⟨h.1, h.2.symm⟩
/-- what lies where, while a block is compressed -/
structure ShMem (w W : World) (A : Nat) (st bl rs ws : List Int) : Prop where
  k : Kp [] w W
  hA : w.heap.size ≤ A
  h0 : W.heap[A]? = some (.cells (u32s st) 126 (0, 0))
  h1 : W.heap[A + 1]? = some (.cells (u8s bl) 127 (0, 0))
  h2 : W.heap[A + 1 + 1]? = some (.cells (u32s rs) 126 (0, 0))
  h3 : W.heap[A + 1 + 1 + 1]? = some (.cells (u32s ws) 158 (0, 0))
theorem ShMem.drew {w W : World} {A : Nat} {st bl rs ws : List Int} (h : ShMem w W A st bl rs ws) : ShMem w W.drew A st bl rs ws := ⟨h.k.drew, h.hA, h.h0, h.h1, h.h2, h.h3⟩
theorem ShMem.drewN {w W : World} {A : Nat} {st bl rs ws : List Int} (h : ShMem w W A st bl rs ws) (n : Nat) : ShMem w (W.drewN n) A st bl rs ws := ⟨h.k.drewN n, h.hA, h.h0, h.h1, h.h2, h.h3⟩
theorem ShMem.set {w W : World} {A : Nat} {st bl rs ws : List Int} (h : ShMem w W A st bl rs ws) (j : Nat) (x : Int) : ShMem w (W.setCell ⟨A + 1 + 1 + 1, j, none⟩ (.int .u32 x)) A st bl rs (ws.set j x) := by
  have k : Kp [A + 1 + 1 + 1] W (W.setCell ⟨A + 1 + 1 + 1, j, none⟩ (.int .u32 x)) := (Kp.refl _ W).setCell (.inl (by simp)) _
  have hA := h.hA
  refine ⟨h.k.trans k (fun m hm => by rw [List.mem_singleton] at hm; subst hm; exact .inr (by omega)), hA, k.heap h.h0 (by simp; omega), k.heap h.h1 (by simp), k.heap h.h2 (by simp), ?_⟩
  rw [← u32s_set]
  exact heap_setCell_same W _ j _ _ (.int .u32 x) h.h3
theorem ShMem.setS {w W : World} {A : Nat} {st bl rs ws : List Int} (h : ShMem w W A st bl rs ws) (j : Nat) (x : Int) : ShMem w (W.setCell ⟨A, j, none⟩ (.int .u32 x)) A (st.set j x) bl rs ws := by
  have k : Kp [A] W (W.setCell ⟨A, j, none⟩ (.int .u32 x)) := (Kp.refl _ W).setCell (.inl (by simp)) _
  have hA := h.hA
  refine ⟨h.k.trans k (fun m hm => by rw [List.mem_singleton] at hm; subst hm; exact .inr (by omega)), hA, ?_, k.heap h.h1 (by simp), k.heap h.h2 (by simp; omega), k.heap h.h3 (by simp; omega)⟩
  rw [← u32s_set]
  exact heap_setCell_same W _ j _ _ (.int .u32 x) h.h0
def St8.l (s : St8) : List Int := [s.a, s.b, s.c, s.d, s.e, s.f, s.g, s.h]
/-- the state, so many words added -/
def fin8 (st v : List Int) : Nat → List Int
  | 0 => st
  | j + 1 => (fin8 st v j).set j (((fin8 st v j).getD j 0 + v.getD j 0) % 4294967296)
theorem fin8_len (st v : List Int) : ∀ j, (fin8 st v j).length = st.length
  | 0 => rfl
  | j + 1 => by rw [fin8, List.length_set]; exact fin8_len st v j
/-- the state behind one block -/
def comp (kk st bl : List Int) : List Int :=
  fin8 st (St8.l (rounds kk (sch2 bl 48) ⟨st.getD 0 0, st.getD 1 0, st.getD 2 0, st.getD 3 0, st.getD 4 0, st.getD 5 0, st.getD 6 0, st.getD 7 0⟩ 64)) 8
theorem comp_len (kk st bl : List Int) : (comp kk st bl).length = st.length := fin8_len _ _ _
theorem ShMem.res {w W : World} {A : Nat} {st bl rs ws : List Int} (h : ShMem w W A st bl rs ws) (cs : Array Value) : Kp [] w (W.setRow (A + 1 + 1) cs) ∧ (W.setRow (A + 1 + 1) cs).heap[A + 1 + 1]? = some (.cells cs 126 (0, 0)) := by
  have hA := h.hA
  have k : Kp [A + 1 + 1] W (W.setRow (A + 1 + 1) cs) := ⟨rfl, rfl, rfl, by simp, fun j _ hn => setRow_other _ _ _ _ (by simpa using hn)⟩
  exact ⟨h.k.trans k (fun m hm => by rw [List.mem_singleton] at hm; subst hm; exact .inr (by omega)), setRow_heap W _ _ _ _ _ h.h2⟩
theorem one_u32s (l : List Int) : (u32s l).all (·.oneCell') = true := by
  refine Array.all_eq_true_iff_forall_mem.2 (fun v hv => ?_)
  simp only [u32s, List.mem_toArray, List.mem_map] at hv
  obtain ⟨x, _, rfl⟩ := hv
  rfl
set_option maxRecDepth 100000 in
set_option maxHeartbeats 1000000 in
theorem compress_any (st bl kk : List Int) (hst : st.length = 8) (hbl : bl.length = 64) (hkk : kk.length = 64) (w : World) {T : TypeId} (fr : Nat × Nat) (hg : w.heap[1]? = some (.cells (u32s kk) T fr)) :
    Calls Tryd.prog 59 #[.agg (u32s st), .agg (u8s bl)] w fun e w' => e = .returned (.agg (u32s (comp kk st bl))) ∧ Kp [] w w' := by
  have HC : Hid (comp kk st bl = fin8 st (St8.l (rounds kk (sch2 bl 48) ⟨st.getD 0 0, st.getD 1 0, st.getD 2 0, st.getD 3 0, st.getD 4 0, st.getD 5 0, st.getD 6 0, st.getD 7 0⟩ 64)) 8) := Lib.hid rfl
  generalize comp kk st bl = res at *
  have HS := Lib.hid hst
  have HB := Lib.hid hbl
  have HK := Lib.hid hkk
  have HG : Hid (∀ w', Kp [] w w' → w'.heap[1]? = some (.cells (u32s kk) T fr)) := Lib.hid (fun w' k => k.heap hg (by simp))
  clear hst hbl hkk hg
  go_enter Tryd.func59, Tryd.ntmps59
  go_upto_block 0 with fail
  have HM : Hid (ShMem w ((((w.alloc (.cells (u32s st) 126)).alloc (.cells (u8s bl) 127)).alloc (.cells (u32s (List.replicate 8 0)) 126)).alloc (.cells (u32s (List.replicate 64 0)) 158)) w.heap.size st bl (List.replicate 8 0) (List.replicate 64 0)) := Lib.hid (by
    obtain ⟨r0, r1, r2, r3⟩ := four_rows w (.cells (u32s st) 126) (.cells (u8s bl) 127) (.cells (u32s (List.replicate 8 0)) 126) (.cells (u32s (List.replicate 64 0)) 158)
    exact ⟨((((Kp.refl [] w).alloc _).alloc _).alloc _).alloc _, Nat.le_refl _, r0, r1, r2, r3⟩)
  generalize hA : w.heap.size = A at *
  clear hA
  go_cut [23] (fun _ w' => Hid (ShMem w w' A st bl (List.replicate 8 0) (sch1 bl 16)))
  case first =>
    go_wp2_with fail
    go_loopw [23] (fun i wr => ∃ t : Nat, t ≤ 16 ∧ i = .int .i64 t ∧ Hid (ShMem w wr A st bl (List.replicate 8 0) (sch1 bl t))) (fun i _ => 16 - (intOf i).toNat)
    case atStart => exact ⟨0, Nat.zero_le _, rfl, HM⟩
    case round =>
      obtain ⟨t, ht, rfl, HR⟩ := hrel
      by_cases hlt : t < 16
      · have b0 : wr.cell? ⟨A + 1, 4 * t, none⟩ = some (.int .u8 (bl.getD (4 * t) 0)) := by
          rw [cell_of_row _ _ _ _ _ _ HR.out.h1, u8s_getD _ _ (by rw [HB.out]; omega)]
        have b1 : wr.cell? ⟨A + 1, 4 * t + 1, none⟩ = some (.int .u8 (bl.getD (4 * t + 1) 0)) := by
          rw [cell_of_row _ _ _ _ _ _ HR.out.h1, u8s_getD _ _ (by rw [HB.out]; omega)]
        have b2 : wr.cell? ⟨A + 1, 4 * t + 2, none⟩ = some (.int .u8 (bl.getD (4 * t + 2) 0)) := by
          rw [cell_of_row _ _ _ _ _ _ HR.out.h1, u8s_getD _ _ (by rw [HB.out]; omega)]
        have b3 : wr.cell? ⟨A + 1, 4 * t + 3, none⟩ = some (.int .u8 (bl.getD (4 * t + 3) 0)) := by
          rw [cell_of_row _ _ _ _ _ _ HR.out.h1, u8s_getD _ _ (by rw [HB.out]; omega)]
        have c0 : wr.cell? ⟨A + 1 + 1 + 1, t, none⟩ = some (.int .u32 ((sch1 bl t).getD t 0)) := by
          rw [cell_of_row _ _ _ _ _ _ HR.out.h3, u32s_getD _ _ (by rw [sch1_len]; omega)]
        have cf : wr.frozen? ⟨A + 1 + 1 + 1, t, none⟩ = false := frozen_of_row wr _ t _ _ HR.out.h3
        have HST : Hid (sch1 bl (t + 1) = (sch1 bl t).set t (word (bl.getD (4 * t) 0) (bl.getD (4 * t + 1) 0) (bl.getD (4 * t + 2) 0) (bl.getD (4 * t + 3) 0))) := Lib.hid rfl
        generalize bl.getD (4 * t) 0 = x0 at *
        generalize bl.getD (4 * t + 1) 0 = x1 at *
        generalize bl.getD (4 * t + 2) 0 = x2 at *
        generalize bl.getD (4 * t + 3) 0 = x3 at *
        go_wp2_with fail
        have i0 : (0 : Int) ≤ 4 * (t : Int) := by omega
        have i1 : 4 * (t : Int) < 64 := by omega
        have i2 : 4 * (t : Int) + 1 < 64 := by omega
        have i3 : 4 * (t : Int) + 2 < 64 := by omega
        have i4 : 4 * (t : Int) + 3 < 64 := by omega
        have i5 : (t : Int) < 64 := by omega
        have j1 : (0 : Int) ≤ 4 * (t : Int) + 1 := by omega
        have j2 : (0 : Int) ≤ 4 * (t : Int) + 2 := by omega
        have j3 : (0 : Int) ≤ 4 * (t : Int) + 3 := by omega
        have w0 : IntKind.i64.wrap (4 * (t : Int)) = 4 * (t : Int) := IntWalk.i64_in _ (by omega)
        have w1 : IntKind.i64.wrap (4 * (t : Int) + 1) = 4 * (t : Int) + 1 := IntWalk.i64_in _ (by omega)
        have w2 : IntKind.i64.wrap (4 * (t : Int) + 2) = 4 * (t : Int) + 2 := IntWalk.i64_in _ (by omega)
        have w3 : IntKind.i64.wrap (4 * (t : Int) + 3) = 4 * (t : Int) + 3 := IntWalk.i64_in _ (by omega)
        have n0 : (4 * (t : Int)).toNat = 4 * t := by omega
        have n1 : (4 * (t : Int) + 1).toNat = 4 * t + 1 := by omega
        have n2 : (4 * (t : Int) + 2).toNat = 4 * t + 2 := by omega
        have n3 : (4 * (t : Int) + 3).toNat = 4 * t + 3 := by omega
        go_still_tail 31, (by kernel_rfl)
        go_wp2_with fail
        go_roundw
        case rel => exact ⟨t + 1, by omega, by go_num, Lib.hid (by rw [HST.out]; exact (HR.out.set t _).drew)⟩
        case measure => simp [intOf]; omega
      · have ht16 : t = 16 := by omega
        subst ht16
        go_wp2_with fail
        go_meet
        exact HR
  case rest =>
    have HM2 := Lib.hid hcut.out
    clear hcut HM
    go_upto_block 2 with fail
    go_cut [7] (fun _ w' => Hid (ShMem w w' A st bl (List.replicate 8 0) (sch2 bl 48)))
    case first =>
      go_wp2_with fail
      go_loopw [7] (fun i wr => ∃ t : Nat, 16 ≤ t ∧ t ≤ 64 ∧ i = .int .i64 t ∧ Hid (ShMem w wr A st bl (List.replicate 8 0) (sch2 bl (t - 16)))) (fun i _ => 64 - (intOf i).toNat)
      case atStart => exact ⟨16, Nat.le_refl _, by decide, rfl, HM2⟩
      case round =>
        obtain ⟨t, ht0, ht, rfl, HR⟩ := hrel
        by_cases hlt : t < 64
        · obtain ⟨k, hk⟩ : ∃ k, k = t - 16 := ⟨_, rfl⟩
          have c1 : wr.cell? ⟨A + 1 + 1 + 1, t - 15, none⟩ = some (.int .u32 ((sch2 bl k).getD (k + 16 - 15) 0)) := by
            rw [cell_of_row _ _ _ _ _ _ HR.out.h3, u32s_getD _ _ (by rw [sch2_len]; omega), ← hk, show k + 16 - 15 = t - 15 by omega]
          have c2 : wr.cell? ⟨A + 1 + 1 + 1, t - 2, none⟩ = some (.int .u32 ((sch2 bl k).getD (k + 16 - 2) 0)) := by
            rw [cell_of_row _ _ _ _ _ _ HR.out.h3, u32s_getD _ _ (by rw [sch2_len]; omega), ← hk, show k + 16 - 2 = t - 2 by omega]
          have c3 : wr.cell? ⟨A + 1 + 1 + 1, t - 7, none⟩ = some (.int .u32 ((sch2 bl k).getD (k + 16 - 7) 0)) := by
            rw [cell_of_row _ _ _ _ _ _ HR.out.h3, u32s_getD _ _ (by rw [sch2_len]; omega), ← hk, show k + 16 - 7 = t - 7 by omega]
          have c4 : wr.cell? ⟨A + 1 + 1 + 1, t - 16, none⟩ = some (.int .u32 ((sch2 bl k).getD (k + 16 - 16) 0)) := by
            rw [cell_of_row _ _ _ _ _ _ HR.out.h3, u32s_getD _ _ (by rw [sch2_len]; omega), show k + 16 - 16 = t - 16 by omega, hk]
          have c0 : wr.cell? ⟨A + 1 + 1 + 1, t, none⟩ = some (.int .u32 ((sch2 bl k).getD t 0)) := by
            rw [cell_of_row _ _ _ _ _ _ HR.out.h3, u32s_getD _ _ (by rw [sch2_len]; omega), ← hk]
          have cf : wr.frozen? ⟨A + 1 + 1 + 1, t, none⟩ = false := frozen_of_row wr _ t _ _ HR.out.h3
          have HST : Hid (sch2 bl (t + 1 - 16) = (sch2 bl k).set t (mix ((sch2 bl k).getD (k + 16 - 15) 0) ((sch2 bl k).getD (k + 16 - 2) 0) ((sch2 bl k).getD (k + 16 - 7) 0) ((sch2 bl k).getD (k + 16 - 16) 0))) := Lib.hid (by
            rw [show t + 1 - 16 = k + 1 by omega, show t = k + 16 by omega]; rfl)
          have HK2 := Lib.hid hk
          clear hk
          generalize (sch2 bl k).getD (k + 16 - 15) 0 = x at *
          generalize (sch2 bl k).getD (k + 16 - 2) 0 = y at *
          generalize (sch2 bl k).getD (k + 16 - 7) 0 = p at *
          generalize (sch2 bl k).getD (k + 16 - 16) 0 = q at *
          generalize (sch2 bl k).getD t 0 = z at *
          have i0 : (0 : Int) ≤ (t : Int) - 15 := by omega
          have i1 : (t : Int) - 15 < 64 := by omega
          have i2 : (0 : Int) ≤ (t : Int) - 2 := by omega
          have i3 : (t : Int) - 2 < 64 := by omega
          have i4 : (0 : Int) ≤ (t : Int) - 7 := by omega
          have i5 : (t : Int) - 7 < 64 := by omega
          have i6 : (0 : Int) ≤ (t : Int) - 16 := by omega
          have i7 : (t : Int) - 16 < 64 := by omega
          have i8 : (t : Int) < 64 := by omega
          have q1 : (7 : Int) ≤ (t : Int) := by omega
          have q2 : (16 : Int) ≤ (t : Int) := by omega
          have q3 : (15 : Int) ≤ (t : Int) := by omega
          have q4 : (2 : Int) ≤ (t : Int) := by omega
          have w0 : IntKind.i64.wrap ((t : Int) - 15) = (t : Int) - 15 := IntWalk.i64_in _ (by omega)
          have w1 : IntKind.i64.wrap ((t : Int) - 2) = (t : Int) - 2 := IntWalk.i64_in _ (by omega)
          have w2 : IntKind.i64.wrap ((t : Int) - 7) = (t : Int) - 7 := IntWalk.i64_in _ (by omega)
          have w3 : IntKind.i64.wrap ((t : Int) - 16) = (t : Int) - 16 := IntWalk.i64_in _ (by omega)
          have n0 : ((t : Int) - 15).toNat = t - 15 := by omega
          have n1 : ((t : Int) - 2).toNat = t - 2 := by omega
          have n2 : ((t : Int) - 7).toNat = t - 7 := by omega
          have n3 : ((t : Int) - 16).toNat = t - 16 := by omega
          go_wp2_with fail
          go_quiet (fail)
          have HRz : Hid (ShMem w (wr.drewN nq) A st bl (List.replicate 8 0) (sch2 bl (t - 16))) := Lib.hid (HR.out.drewN nq)
          have d3 : (wr.drewN nq).cell? ⟨A + 1 + 1 + 1, t - 7, none⟩ = some (.int .u32 p) := c3
          have d4 : (wr.drewN nq).cell? ⟨A + 1 + 1 + 1, t - 16, none⟩ = some (.int .u32 q) := c4
          have d0 : (wr.drewN nq).cell? ⟨A + 1 + 1 + 1, t, none⟩ = some (.int .u32 z) := c0
          have df : (wr.drewN nq).frozen? ⟨A + 1 + 1 + 1, t, none⟩ = false := cf
          clear c0 c1 c2 c3 c4 cf HR
          generalize wr.drewN nq = wz at *
          go_wp2_with fail
          refine wp_region_still_tail 29 (by kernel_rfl) (by kernel_rfl) ?_
          simp only [List.take_succ_cons, List.take_zero, List.drop_succ_cons, List.drop_zero]
          have e3 : wz.drew.cell? ⟨A + 1 + 1 + 1, t - 7, none⟩ = some (.int .u32 p) := d3
          have e4 : wz.drew.cell? ⟨A + 1 + 1 + 1, t - 16, none⟩ = some (.int .u32 q) := d4
          have e0 : wz.drew.cell? ⟨A + 1 + 1 + 1, t, none⟩ = some (.int .u32 z) := d0
          have ef : wz.drew.frozen? ⟨A + 1 + 1 + 1, t, none⟩ = false := df
          have HRy : Hid (ShMem w wz.drew A st bl (List.replicate 8 0) (sch2 bl (t - 16))) := Lib.hid HRz.out.drew
          change wpStill _ _ wz.drew (fun a' => wpList _ _ _ _ a' wz.drew) _ _
          clear d0 d3 d4 df HRz
          generalize wz.drew = wy at *
          repeat (first | still_step | still_call (right_at _ _ (by decide) (by decide) _))
          refine wpStill_nil ?_
          go_wp2_with fail
          go_roundw
          case rel => exact ⟨t + 1, by omega, by omega, by go_num, Lib.hid (by rw [HST.out, HK2.out]; exact HRy.out.set t _)⟩
          case measure => simp [intOf]; omega
        · have ht64 : t = 64 := by omega
          subst ht64
          go_wp2_with fail
          go_meet
          exact HR
    case rest =>
      have HM3 := Lib.hid hcut.out
      clear hcut HM2
      have s0 := cell_of_row wc A 0 _ _ _ HM3.out.h0
      have s1 := cell_of_row wc A 1 _ _ _ HM3.out.h0
      have s2 := cell_of_row wc A 2 _ _ _ HM3.out.h0
      have s3 := cell_of_row wc A 3 _ _ _ HM3.out.h0
      have s4 := cell_of_row wc A 4 _ _ _ HM3.out.h0
      have s5 := cell_of_row wc A 5 _ _ _ HM3.out.h0
      have s6 := cell_of_row wc A 6 _ _ _ HM3.out.h0
      have s7 := cell_of_row wc A 7 _ _ _ HM3.out.h0
      rw [u32s_getD _ _ (by rw [HS.out]; omega)] at s0 s1 s2 s3 s4 s5 s6 s7
      generalize st.getD 0 0 = a0 at *
      generalize st.getD 1 0 = a1 at *
      generalize st.getD 2 0 = a2 at *
      generalize st.getD 3 0 = a3 at *
      generalize st.getD 4 0 = a4 at *
      generalize st.getD 5 0 = a5 at *
      generalize st.getD 6 0 = a6 at *
      generalize st.getD 7 0 = a7 at *
      go_wp2_with fail
      go_quiet (fail)
      have HM4 := Lib.hid (HM3.out.drewN nq)
      clear HM3 s0 s1 s2 s3 s4 s5 s6 s7
      generalize wc.drewN nq = wd at *
      go_upto_block 4 with fail
      go_cut [10, 11, 12, 13, 14, 15, 16, 17, 115] (fun c0 c1 c2 c3 c4 c5 c6 c7 _ w' => Hid (ShMem w w' A st bl (List.replicate 8 0) (sch2 bl 48)) ∧ ∃ b0 b1 b2 b3 b4 b5 b6 b7 : Int, c0 = .int .u32 b0 ∧ c1 = .int .u32 b1 ∧ c2 = .int .u32 b2 ∧ c3 = .int .u32 b3 ∧ c4 = .int .u32 b4 ∧ c5 = .int .u32 b5 ∧ c6 = .int .u32 b6 ∧ c7 = .int .u32 b7 ∧ Hid (rounds kk (sch2 bl 48) ⟨a0, a1, a2, a3, a4, a5, a6, a7⟩ 64 = ⟨b0, b1, b2, b3, b4, b5, b6, b7⟩))
      case first =>
        go_wp2_with fail
        go_loopw [10, 11, 12, 13, 14, 15, 16, 17, 115] (fun c0 c1 c2 c3 c4 c5 c6 c7 i wr => ∃ t : Nat, t ≤ 64 ∧ i = .int .i64 t ∧ Hid (ShMem w wr A st bl (List.replicate 8 0) (sch2 bl 48)) ∧ ∃ b0 b1 b2 b3 b4 b5 b6 b7 : Int, c0 = .int .u32 b0 ∧ c1 = .int .u32 b1 ∧ c2 = .int .u32 b2 ∧ c3 = .int .u32 b3 ∧ c4 = .int .u32 b4 ∧ c5 = .int .u32 b5 ∧ c6 = .int .u32 b6 ∧ c7 = .int .u32 b7 ∧ Hid (rounds kk (sch2 bl 48) ⟨a0, a1, a2, a3, a4, a5, a6, a7⟩ t = ⟨b0, b1, b2, b3, b4, b5, b6, b7⟩)) (fun _ _ _ _ _ _ _ _ i _ => 64 - (intOf i).toNat)
        case atStart => exact ⟨0, Nat.zero_le _, rfl, HM4, a0, a1, a2, a3, a4, a5, a6, a7, rfl, rfl, rfl, rfl, rfl, rfl, rfl, rfl, Lib.hid rfl⟩
        case round =>
          obtain ⟨t, ht, rfl, HR, b0, b1, b2, b3, b4, b5, b6, b7, rfl, rfl, rfl, rfl, rfl, rfl, rfl, rfl, HRD⟩ := hrel
          by_cases hlt : t < 64
          · have c0 : wr.cell? ⟨A + 1 + 1 + 1, t, none⟩ = some (.int .u32 ((sch2 bl 48).getD t 0)) := by
              rw [cell_of_row _ _ _ _ _ _ HR.out.h3, u32s_getD _ _ (by rw [sch2_len]; omega)]
            have c1 : wr.cell? ⟨1, t, none⟩ = some (.int .u32 (kk.getD t 0)) := by
              rw [cell_of_row _ _ _ _ _ _ (HG.out wr HR.out.k), u32s_getD _ _ (by rw [HK.out]; omega)]
            have HSTEP : Hid (rounds kk (sch2 bl 48) ⟨a0, a1, a2, a3, a4, a5, a6, a7⟩ (t + 1) = St8.step ⟨b0, b1, b2, b3, b4, b5, b6, b7⟩ (kk.getD t 0) ((sch2 bl 48).getD t 0)) := Lib.hid (by rw [rounds, HRD.out])
            generalize (sch2 bl 48).getD t 0 = x at *
            generalize kk.getD t 0 = y at *
            have i8 : (t : Int) < 64 := by omega
            go_wp2_with fail
            refine wp_region_still_lit (by kernel_rfl) (by kernel_rfl) ?_
            have e0 : wr.drew.cell? ⟨A + 1 + 1 + 1, t, none⟩ = some (.int .u32 x) := c0
            have e1 : wr.drew.cell? ⟨1, t, none⟩ = some (.int .u32 y) := c1
            repeat (first | still_step | still_call (right_at _ _ (by decide) (by decide) _))
            refine wpStill_nil ?_
            go_wp2_with fail
            refine (right_any _ _ (by decide) (by decide) _).mono ?_
            rintro e w' ⟨rfl, rfl⟩
            go_wp2_with fail
            refine (right_any _ _ (by decide) (by decide) _).mono ?_
            rintro e w' ⟨rfl, rfl⟩
            go_wp2_with fail
            refine (right_any _ _ (by decide) (by decide) _).mono ?_
            rintro e w' ⟨rfl, rfl⟩
            go_wp2_with fail
            go_roundw
            case rel => exact ⟨t + 1, by omega, by go_num, Lib.hid HR.out.drew, _, _, _, _, _, _, _, _, rfl, rfl, rfl, rfl, rfl, rfl, rfl, rfl, Lib.hid HSTEP.out⟩
            case measure => simp [intOf]; omega
          · have ht64 : t = 64 := by omega
            subst ht64
            go_wp2_with fail
            go_meet
            exact ⟨HR, _, _, _, _, _, _, _, _, rfl, rfl, rfl, rfl, rfl, rfl, rfl, rfl, HRD⟩
      case rest =>
        obtain ⟨HM5, b0, b1, b2, b3, b4, b5, b6, b7, rfl, rfl, rfl, rfl, rfl, rfl, rfl, rfl, HRD⟩ := hcut
        go_upto_block 6 with fail
        generalize hv : St8.l ⟨b0, b1, b2, b3, b4, b5, b6, b7⟩ = v
        have HV := Lib.hid hv
        clear hv
        go_cut [187] (fun _ w' => Hid (ShMem w w' A (fin8 st v 8) bl (List.replicate 8 0) (sch2 bl 48)))
        case first =>
          go_wp2_with fail
          go_loopw [187] (fun i wr => ∃ j : Nat, j ≤ 8 ∧ i = .int .i64 j ∧ Hid (ShMem w wr A (fin8 st v j) bl (List.replicate 8 0) (sch2 bl 48))) (fun i _ => 8 - (intOf i).toNat)
          case atStart => exact ⟨0, Nat.zero_le _, rfl, HM5⟩
          case round =>
            obtain ⟨j, hj, rfl, HR⟩ := hrel
            by_cases hlt : j < 8
            · have c0 : wr.cell? ⟨A, j, none⟩ = some (.int .u32 ((fin8 st v j).getD j 0)) := by
                rw [cell_of_row _ _ _ _ _ _ HR.out.h0, u32s_getD _ _ (by rw [fin8_len, HS.out]; omega)]
              have cf : wr.frozen? ⟨A, j, none⟩ = false := frozen_of_row wr _ j _ _ HR.out.h0
              have HST : Hid (fin8 st v (j + 1) = (fin8 st v j).set j (((fin8 st v j).getD j 0 + v.getD j 0) % 4294967296)) := Lib.hid rfl
              generalize (fin8 st v j).getD j 0 = x at *
              have x0 : ∀ w, (Instr.index 126 (.agg #[Value.int IntKind.u32 b0, Value.int IntKind.u32 b1, Value.int IntKind.u32 b2, Value.int IntKind.u32 b3, Value.int IntKind.u32 b4, Value.int IntKind.u32 b5, Value.int IntKind.u32 b6, Value.int IntKind.u32 b7]) (.int .i64 0)).run Tryd.prog w = .ok (.int .u32 b0) w := fun _ => by kernel_rfl
              have x1 : ∀ w, (Instr.index 126 (.agg #[Value.int IntKind.u32 b0, Value.int IntKind.u32 b1, Value.int IntKind.u32 b2, Value.int IntKind.u32 b3, Value.int IntKind.u32 b4, Value.int IntKind.u32 b5, Value.int IntKind.u32 b6, Value.int IntKind.u32 b7]) (.int .i64 1)).run Tryd.prog w = .ok (.int .u32 b1) w := fun _ => by kernel_rfl
              have x2 : ∀ w, (Instr.index 126 (.agg #[Value.int IntKind.u32 b0, Value.int IntKind.u32 b1, Value.int IntKind.u32 b2, Value.int IntKind.u32 b3, Value.int IntKind.u32 b4, Value.int IntKind.u32 b5, Value.int IntKind.u32 b6, Value.int IntKind.u32 b7]) (.int .i64 2)).run Tryd.prog w = .ok (.int .u32 b2) w := fun _ => by kernel_rfl
              have x3 : ∀ w, (Instr.index 126 (.agg #[Value.int IntKind.u32 b0, Value.int IntKind.u32 b1, Value.int IntKind.u32 b2, Value.int IntKind.u32 b3, Value.int IntKind.u32 b4, Value.int IntKind.u32 b5, Value.int IntKind.u32 b6, Value.int IntKind.u32 b7]) (.int .i64 3)).run Tryd.prog w = .ok (.int .u32 b3) w := fun _ => by kernel_rfl
              have x4 : ∀ w, (Instr.index 126 (.agg #[Value.int IntKind.u32 b0, Value.int IntKind.u32 b1, Value.int IntKind.u32 b2, Value.int IntKind.u32 b3, Value.int IntKind.u32 b4, Value.int IntKind.u32 b5, Value.int IntKind.u32 b6, Value.int IntKind.u32 b7]) (.int .i64 4)).run Tryd.prog w = .ok (.int .u32 b4) w := fun _ => by kernel_rfl
              have x5 : ∀ w, (Instr.index 126 (.agg #[Value.int IntKind.u32 b0, Value.int IntKind.u32 b1, Value.int IntKind.u32 b2, Value.int IntKind.u32 b3, Value.int IntKind.u32 b4, Value.int IntKind.u32 b5, Value.int IntKind.u32 b6, Value.int IntKind.u32 b7]) (.int .i64 5)).run Tryd.prog w = .ok (.int .u32 b5) w := fun _ => by kernel_rfl
              have x6 : ∀ w, (Instr.index 126 (.agg #[Value.int IntKind.u32 b0, Value.int IntKind.u32 b1, Value.int IntKind.u32 b2, Value.int IntKind.u32 b3, Value.int IntKind.u32 b4, Value.int IntKind.u32 b5, Value.int IntKind.u32 b6, Value.int IntKind.u32 b7]) (.int .i64 6)).run Tryd.prog w = .ok (.int .u32 b6) w := fun _ => by kernel_rfl
              have x7 : ∀ w, (Instr.index 126 (.agg #[Value.int IntKind.u32 b0, Value.int IntKind.u32 b1, Value.int IntKind.u32 b2, Value.int IntKind.u32 b3, Value.int IntKind.u32 b4, Value.int IntKind.u32 b5, Value.int IntKind.u32 b6, Value.int IntKind.u32 b7]) (.int .i64 7)).run Tryd.prog w = .ok (.int .u32 b7) w := fun _ => by kernel_rfl
              have hj8 : j = 0 ∨ j = 1 ∨ j = 2 ∨ j = 3 ∨ j = 4 ∨ j = 5 ∨ j = 6 ∨ j = 7 := by omega
              rcases hj8 with rfl | rfl | rfl | rfl | rfl | rfl | rfl | rfl
              all_goals go_wp2_with fail
              all_goals go_roundw
              case rel => exact ⟨1, by decide, rfl, Lib.hid (by have h := HR.out.setS 0 ((x + b0) % 4294967296); have e : v.getD 0 0 = b0 := (by rw [← HV.out]; rfl); rw [HST.out, e]; exact h)⟩
              case measure => simp [intOf]
              case rel => exact ⟨2, by decide, rfl, Lib.hid (by have h := HR.out.setS 1 ((x + b1) % 4294967296); have e : v.getD 1 0 = b1 := (by rw [← HV.out]; rfl); rw [HST.out, e]; exact h)⟩
              case measure => simp [intOf]
              case rel => exact ⟨3, by decide, rfl, Lib.hid (by have h := HR.out.setS 2 ((x + b2) % 4294967296); have e : v.getD 2 0 = b2 := (by rw [← HV.out]; rfl); rw [HST.out, e]; exact h)⟩
              case measure => simp [intOf]
              case rel => exact ⟨4, by decide, rfl, Lib.hid (by have h := HR.out.setS 3 ((x + b3) % 4294967296); have e : v.getD 3 0 = b3 := (by rw [← HV.out]; rfl); rw [HST.out, e]; exact h)⟩
              case measure => simp [intOf]
              case rel => exact ⟨5, by decide, rfl, Lib.hid (by have h := HR.out.setS 4 ((x + b4) % 4294967296); have e : v.getD 4 0 = b4 := (by rw [← HV.out]; rfl); rw [HST.out, e]; exact h)⟩
              case measure => simp [intOf]
              case rel => exact ⟨6, by decide, rfl, Lib.hid (by have h := HR.out.setS 5 ((x + b5) % 4294967296); have e : v.getD 5 0 = b5 := (by rw [← HV.out]; rfl); rw [HST.out, e]; exact h)⟩
              case measure => simp [intOf]
              case rel => exact ⟨7, by decide, rfl, Lib.hid (by have h := HR.out.setS 6 ((x + b6) % 4294967296); have e : v.getD 6 0 = b6 := (by rw [← HV.out]; rfl); rw [HST.out, e]; exact h)⟩
              case measure => simp [intOf]
              case rel => exact ⟨8, by decide, rfl, Lib.hid (by have h := HR.out.setS 7 ((x + b7) % 4294967296); have e : v.getD 7 0 = b7 := (by rw [← HV.out]; rfl); rw [HST.out, e]; exact h)⟩
              case measure => simp [intOf]
            · have hj8 : j = 8 := by omega
              subst hj8
              go_wp2_with fail
              go_meet
              exact HR
        case rest =>
          have HM6 := Lib.hid hcut.out
          clear hcut HM5
          rw [HRD.out, HV.out] at HC
          have hsz : (u32s (fin8 st v 8)).size = 8 := by rw [u32s_size, fin8_len, HS.out]
          have HZ := Lib.hid hsz
          clear hsz
          go_wp2_with (first | (refine wpList_load_row rfl 126 (.tmp 2) rfl A rfl 126 (u32s (fin8 st v 8)) (0, 0) _ HM6.out.h0 Tryd.underlying126 rfl (by rw [HZ.out]; kernel_rfl) ?_) | (refine wpList_store_row rfl 126 (.tmp 4) (.tmp 198) rfl (A + 1 + 1) (u32s (fin8 st v 8)) rfl rfl 126 _ HM6.out.h2 (by rw [HZ.out]; kernel_rfl) (by rw [HZ.out, u32s_size, List.length_replicate]) (one_u32s _) ?_))
          obtain ⟨r1, r2⟩ := HM6.out.res (u32s (fin8 st v 8))
          rw [HC.out]
          exact bodyPost_ret (results_cell_row rfl _ _ (A + 1 + 1) 126 _ (0, 0) _ rfl r2 Tryd.underlying126 rfl (by rw [HZ.out]; kernel_rfl)) rfl ⟨rfl, r1⟩
end Go.Proofs.YtkceaepbjdfccaaDoor
