/-
parcel.read.
-/
import Derived.Test.YtkceaepbjdfccaaDoorPar4
namespace Go.Proofs.YtkceaepbjdfccaaDoor
open Go.RowKit
/-- what holds where read's goto comes from -/
def RJ (w : World) (P : Nat) (b : List UInt8) (a' : Act) (w' : World) : Prop :=
  ∃ x0 x1 x3 x4 x5 x6 x7 x8 x9 x10 x11 x12 x13 x14 x15 x16 x17 x18 x19 x20 x21 x22 x23 x24 x25 x26 x27 x28 x29 x30 x31 x32 x33 x34 x35 x36 x37 x38 x39 x40 x41 x42 x43 x44 x45 x46 x47 x48 x49 x50 x51 x52 x53 x54 x55 x56 x57 x58 x59 x60 x61 x62 x63 x64 x65 x66 x67 x68 x69 x70 x71 x72 x73 x74 x75 x76 x77 x78 x79 x80 x81 x82 : Value, a' = { tmps := (x0 :: x1 :: .pointer (some ⟨P, 0, none⟩) :: x3 :: x4 :: x5 :: x6 :: x7 :: x8 :: x9 :: x10 :: x11 :: x12 :: x13 :: x14 :: x15 :: x16 :: x17 :: x18 :: x19 :: x20 :: x21 :: x22 :: x23 :: x24 :: x25 :: x26 :: x27 :: x28 :: x29 :: x30 :: x31 :: x32 :: x33 :: x34 :: x35 :: x36 :: x37 :: x38 :: x39 :: x40 :: x41 :: x42 :: x43 :: x44 :: x45 :: x46 :: x47 :: x48 :: x49 :: x50 :: x51 :: x52 :: x53 :: x54 :: x55 :: x56 :: x57 :: x58 :: x59 :: x60 :: x61 :: x62 :: x63 :: x64 :: x65 :: x66 :: x67 :: x68 :: x69 :: x70 :: x71 :: x72 :: x73 :: x74 :: x75 :: x76 :: x77 :: x78 :: x79 :: x80 :: x81 :: x82 :: []).toArray, defers := [] } ∧ readL b = none ∧ Kp [] w w' ∧ ∃ cs : List Value, cs.length = 12 ∧ w'.heap[P]? = some (.cells cs.toArray 101 (0, 0))
theorem RJ.mk {w : World} {P : Nat} {b : List UInt8} {x0 x1 x3 x4 x5 x6 x7 x8 x9 x10 x11 x12 x13 x14 x15 x16 x17 x18 x19 x20 x21 x22 x23 x24 x25 x26 x27 x28 x29 x30 x31 x32 x33 x34 x35 x36 x37 x38 x39 x40 x41 x42 x43 x44 x45 x46 x47 x48 x49 x50 x51 x52 x53 x54 x55 x56 x57 x58 x59 x60 x61 x62 x63 x64 x65 x66 x67 x68 x69 x70 x71 x72 x73 x74 x75 x76 x77 x78 x79 x80 x81 x82 : Value} {w' : World} {cs : List Value} (hb : readL b = none) (k : Kp [] w w') (hl : cs.length = 12) (h : w'.heap[P]? = some (.cells cs.toArray 101 (0, 0))) :
    RJ w P b { tmps := (x0 :: x1 :: .pointer (some ⟨P, 0, none⟩) :: x3 :: x4 :: x5 :: x6 :: x7 :: x8 :: x9 :: x10 :: x11 :: x12 :: x13 :: x14 :: x15 :: x16 :: x17 :: x18 :: x19 :: x20 :: x21 :: x22 :: x23 :: x24 :: x25 :: x26 :: x27 :: x28 :: x29 :: x30 :: x31 :: x32 :: x33 :: x34 :: x35 :: x36 :: x37 :: x38 :: x39 :: x40 :: x41 :: x42 :: x43 :: x44 :: x45 :: x46 :: x47 :: x48 :: x49 :: x50 :: x51 :: x52 :: x53 :: x54 :: x55 :: x56 :: x57 :: x58 :: x59 :: x60 :: x61 :: x62 :: x63 :: x64 :: x65 :: x66 :: x67 :: x68 :: x69 :: x70 :: x71 :: x72 :: x73 :: x74 :: x75 :: x76 :: x77 :: x78 :: x79 :: x80 :: x81 :: x82 :: []).toArray, defers := [] } w' := ⟨x0, x1, x3, x4, x5, x6, x7, x8, x9, x10, x11, x12, x13, x14, x15, x16, x17, x18, x19, x20, x21, x22, x23, x24, x25, x26, x27, x28, x29, x30, x31, x32, x33, x34, x35, x36, x37, x38, x39, x40, x41, x42, x43, x44, x45, x46, x47, x48, x49, x50, x51, x52, x53, x54, x55, x56, x57, x58, x59, x60, x61, x62, x63, x64, x65, x66, x67, x68, x69, x70, x71, x72, x73, x74, x75, x76, x77, x78, x79, x80, x81, x82, rfl, hb, k, cs, hl, h⟩
theorem rs_start {w w1 : World} {p : Nat} {rv : Value} {b : List UInt8} (hr : Rr w1 (w.alloc (.cells (pcl 0 0 0 s8 (.slice none 0 0)).toArray 101)).heap.size p rv b ⟨0, 0, 0⟩)
    (k : Kp [] (w.alloc (.cells (pcl 0 0 0 s8 (.slice none 0 0)).toArray 101)) w1) : RS w w1 w.heap.size (pcl 0 0 0 s8 (.slice none 0 0)) p rv b ⟨0, 0, 0⟩ := by
  have hs : (w.alloc (.cells (pcl 0 0 0 s8 (.slice none 0 0)).toArray 101)).heap.size = w.heap.size + 1 := by simp
  rw [hs] at hr
  exact ⟨((Kp.refl [] w).alloc _).trans0 k, k.heap (heap_alloc_new w _) (by simp), Nat.le_refl _, by have := hr.le; omega, hr⟩
/-- a store into a part's cell -/
theorem RS.cell {w W : World} {P : Nat} {cs : List Value} {p : Nat} {rv : Value} {b : List UInt8} {s : Rst} (h : RS w W P cs p rv b s) (i : Nat) (u : Value) (hne : ∀ g ∈ ob rv, g ≠ P) :
    RS w (W.setCell ⟨P, i, none⟩ u) P (cs.set i u) p rv b s := by
  refine h.put ((Kp.refl [P] W).setCell (.inl (by simp)) u) ?_ hne
  have := heap_setCell_same W P i _ _ u h.hP
  rw [this]
  simp
theorem RS.ne {w W : World} {P : Nat} {cs : List Value} {p : Nat} {rv : Value} {b : List UInt8} {s : Rst} (h : RS w W P cs p rv b s) : ∀ g ∈ ob rv, g ≠ P := by
  intro g hg e
  subst e
  exact h.r.own.not_at h.hP (by decide) (mem_ob.1 hg)
theorem RS.c {w W : World} {P : Nat} {cs : List Value} {p : Nat} {rv : Value} {b : List UInt8} {s : Rst} (h : RS w W P cs p rv b s) (i : Nat) (u : Value) (hu : cs[i]? = some u) : W.cell? ⟨P, i, none⟩ = some u := by
  rw [cell_of_row W P i _ _ _ h.hP]; simpa using hu
theorem RS.fz {w W : World} {P : Nat} {cs : List Value} {p : Nat} {rv : Value} {b : List UInt8} {s : Rst} (h : RS w W P cs p rv b s) (i : Nat) : W.frozen? ⟨P, i, none⟩ = false := frozen_of_row W P i _ _ h.hP
theorem RS.head {w W : World} {P : Nat} {p : Nat} {rv : Value} {b : List UInt8} {s : Rst} {a c d a' c' d' : Int} {sum : List UInt8} {v : Value} (h : RS w W P (pcl a c d sum v) p rv b s) :
    RS w (((W.setCell ⟨P, 0, none⟩ (.int .u32 a')).setCell ⟨P, 1, none⟩ (.int .i64 c')).setCell ⟨P, 2, none⟩ (.int .i64 d')) P (pcl a' c' d' sum v) p rv b s :=
  ((h.cell 0 (.int .u32 a') h.ne).cell 1 (.int .i64 c') h.ne).cell 2 (.int .i64 d') h.ne
theorem run_all83 (W : World) (g : Nat) :
    (Instr.sliceAt 88 (.pointer (some ⟨g, 3, none⟩)) none none none).run Tryd.prog W = .ok (.slice (some ⟨g, 3, none⟩) 8 8) W := by
  have ht : Tryd.prog.underlying 88 = some (.array (Tryd.prog.arrayLen 88) (Tryd.prog.elem 88)) := by kernel_rfl
  have hl : Tryd.prog.arrayLen 88 = 8 := by kernel_rfl
  have hs : (sizeOf (Tryd.prog.elem 88)).run Tryd.prog W = .ok 1 W := by kernel_rfl
  rw [run_sliceAt_array_all W _ _ ht, hs, hl]
  rfl
theorem jump_ret {l : Nat} {J : Act → World → Prop} {Q : Exit → Act → World → Prop} {a : Act} {w : World} (h : Q .ret a w) : Exit.jump l J Q .ret a w := h
theorem readL_none1 {b : List UInt8} (h : (rs5 b).2.f ≠ 0 ∨ numL (rs1 b).1 ≠ 5) : readL b = none := by unfold readL; rw [if_pos h]
theorem readL_none2 {b : List UInt8} (h : numL (rs3 b).1 < 1 ∨ 64 < numL (rs3 b).1 ∨ numL (rs3 b).1 ≤ numL (rs4 b).1) : readL b = none := by
  unfold readL
  rw [if_pos h]
  exact ite_self _
theorem readL_none3 {b : List UInt8} (h : 497 < (rs6 b).1.length ∨ (numL (rs4 b).1 < numL (rs3 b).1 - 1 ∧ (rs6 b).1.length < 497) ∨ ((rs6 b).1.length = 0 ∧ 1 < numL (rs3 b).1)) : readL b = none := by
  unfold readL
  rw [if_pos h, ite_self, ite_self]
theorem readL_some {b : List UInt8} (h1 : (rs5 b).2.f = 0) (h2 : numL (rs1 b).1 = 5) (h3 : 1 ≤ numL (rs3 b).1) (h4 : numL (rs3 b).1 ≤ 64) (h5 : numL (rs4 b).1 < numL (rs3 b).1) (h6 : (rs6 b).1.length ≤ 497)
    (h7 : numL (rs4 b).1 < numL (rs3 b).1 - 1 → (rs6 b).1.length = 497) (h8 : (rs6 b).1.length = 0 → numL (rs3 b).1 = 1) : readL b = some (prtOf b) := by
  unfold readL
  rw [if_neg (by omega), if_neg (by omega), if_neg ?_]
  rintro (h | h | h)
  · omega
  · have := h7 h.1; omega
  · have := h8 h.1; omega
theorem pcl_11 (id cnt idx : Int) (sum : List UInt8) (v : Value) (h : sum.length = 8) : (pcl id cnt idx sum v)[11]? = some v := by
  show (bv sum ++ [v])[8]? = some v
  rw [List.getElem?_append_right (by rw [bv_length, h]; exact Nat.le_refl _), bv_length, h]
  rfl
theorem rs_u8 {w W : World} {P : Nat} {cs : List Value} {p : Nat} {rv : Value} {b : List UInt8} {s s' : Rst} {n : Int} (h : RS w W P cs p rv b s) (hs : (fieldL b s 0 1).2 = s') (hn : numL (fieldL b s 0 1).1 = n) :
    Calls Tryd.prog 68 #[.pointer (some ⟨p, 0, none⟩)] W fun e W' => e = .returned (.int .i64 n) ∧ RS w W' P cs p rv b s' := by
  subst hs hn
  exact (rU8_any _ p rv b _ W h.r).mono (fun _ _ ⟨h1, h2, h3⟩ => ⟨h1, h.next h2 h3⟩)
theorem rs_u32 {w W : World} {P : Nat} {cs : List Value} {p : Nat} {rv : Value} {b : List UInt8} {s s' : Rst} {n : Int} (h : RS w W P cs p rv b s) (hs : (fieldL b s 0 4).2 = s') (hn : numL (fieldL b s 0 4).1 = n) :
    Calls Tryd.prog 69 #[.pointer (some ⟨p, 0, none⟩)] W fun e W' => e = .returned (.int .u32 n) ∧ RS w W' P cs p rv b s' := by
  subst hs hn
  exact (rU32_any _ p rv b _ W h.r).mono (fun _ _ ⟨h1, h2, h3⟩ => ⟨h1, h.next h2 h3⟩)
theorem rs_fixed {w W : World} {P : Nat} {cs : List Value} {p : Nat} {rv : Value} {b l : List UInt8} {s s' : Rst} (n : Int) (h : RS w W P cs p rv b s) (hn : n ≤ 211106232532992) (hs : (fieldL b s 0 n).2 = s') (hl : (fieldL b s 0 n).1 = l) :
    Calls Tryd.prog 70 #[.pointer (some ⟨p, 0, none⟩), .int .i64 n] W fun e W' => ∃ a c, e = .returned (.slice a l.length c) ∧ RS w W' P cs p rv b s' ∧ Own W' W.heap.size 5 (.slice a l.length c) (bv l) := by
  subst hs hl
  refine (rFixed_any _ p rv b _ n W h.r hn).mono ?_
  rintro e W' ⟨v', h1, h2, h3, h4⟩
  obtain ⟨a, c, rfl⟩ := h2.rd.form
  rw [bv_length] at h1 h2
  exact ⟨a, c, h1, h.next h3 h4, h2⟩
/-- behind the store of the content -/
structure RE (w W : World) (P : Nat) (cs : List Value) (cv : Value) (ct : List UInt8) : Prop where
  k : Kp [] w W
  hP : W.heap[P]? = some (.cells cs.toArray 101 (0, 0))
  o : Own W w.heap.size 5 cv (bv ct)
theorem pcl_set11 (id cnt idx : Int) (sum : List UInt8) (v u : Value) (h : sum.length = 8) : (pcl id cnt idx sum v).set 11 u = pcl id cnt idx sum u := by
  have e : (bv sum).length = 8 := by rw [bv_length, h]
  show _ :: _ :: _ :: (bv sum ++ [v]).set 8 u = _
  rw [List.set_append_right _ _ (by omega), e]
  rfl
theorem RS.fin {w W0 W : World} {P : Nat} {id cnt idx : Int} {sum : List UInt8} {p : Nat} {rv cv : Value} {b ct : List UInt8} {s : Rst} (h : RS w W P (pcl id cnt idx sum (.slice none 0 0)) p rv b s) (hW : P < W0.heap.size) (hk : w.heap.size ≤ W0.heap.size) (ho : Own W W0.heap.size 5 cv (bv ct)) (hl : sum.length = 8) :
    RE w (W.setCell ⟨P, 11, none⟩ cv) P (pcl id cnt idx sum cv) cv ct := by
  have h1 := h.cell 11 cv h.ne
  rw [pcl_set11 _ _ _ _ _ _ hl] at h1
  refine ⟨h1.k, h1.hP, (ho.kp ((Kp.refl [P] W).setCell (.inl (by simp)) cv) ?_).base hk⟩
  intro g hg
  have := (ho.lt hg).1
  simp
  omega
theorem RE.c {w W : World} {P : Nat} {cs : List Value} {cv : Value} {ct : List UInt8} (h : RE w W P cs cv ct) (i : Nat) (u : Value) (hu : cs[i]? = some u) : W.cell? ⟨P, i, none⟩ = some u := by
  rw [cell_of_row W P i _ _ _ h.hP]; simpa using hu
theorem RE.ne {w W : World} {P : Nat} {cs : List Value} {cv : Value} {ct : List UInt8} (h : RE w W P cs cv ct) : ∀ g, cv.ownBlock = some g → g ∉ [P] := by
  intro g hg e
  rw [List.mem_singleton] at e
  subst e
  exact h.o.not_at h.hP (by decide) hg
theorem pcl_one (id cnt idx : Int) (sum : List UInt8) (a : Option Addr) (nc : Nat × Nat) : ∀ u ∈ pcl id cnt idx sum (.slice a nc.1 nc.2), u.oneCell' = true := by
  intro u hu
  unfold pcl at hu
  simp only [List.mem_cons, List.mem_append, List.not_mem_nil, or_false] at hu
  rcases hu with rfl | rfl | rfl | hu | rfl
  · rfl
  · rfl
  · rfl
  · exact bv_oneCell sum u hu
  · rfl
set_option maxRecDepth 100000 in
set_option maxHeartbeats 2000000 in
theorem read_part (v : Value) (b : List UInt8) (w : World) (hv : Rd w v (bv b)) (hb : b.length ≤ 211106232532992) :
    Calls Tryd.prog 50 #[v] w fun e w' => Kp [] w w' ∧
      ((readL b = none ∧ e = .returned (.tuple #[.agg (pcl 0 0 0 s8 (.slice none 0 0)).toArray, .int .i64 260])) ∨
       ∃ q cv, readL b = some q ∧ e = .returned (.tuple #[.agg (pcl q.id q.cnt q.idx q.sum cv).toArray, .int .i64 0]) ∧ Own w' w.heap.size 5 cv (bv q.cont)) := by
  obtain ⟨ao, cap, rfl⟩ := hv.form
  rw [show (bv b).length = b.length from bv_length b] at hv ⊢
  have HV := Lib.hid hv
  obtain ⟨n1, hn1⟩ : ∃ n, numL (rs1 b).1 = n := ⟨_, rfl⟩
  obtain ⟨n2, hn2⟩ : ∃ n, numL (rs2 b).1 = n := ⟨_, rfl⟩
  obtain ⟨n3, hn3⟩ : ∃ n, numL (rs3 b).1 = n := ⟨_, rfl⟩
  obtain ⟨n4, hn4⟩ : ∃ n, numL (rs4 b).1 = n := ⟨_, rfl⟩
  obtain ⟨sm, hsm⟩ : ∃ n, (rs5 b).1 = n := ⟨_, rfl⟩
  have HB3 : Hid (0 ≤ n3 ∧ n3 < 4294967296) := Lib.hid (hn3 ▸ numL_lo (rs3 b).1)
  have HB4 : Hid (0 ≤ n4 ∧ n4 < 4294967296) := Lib.hid (hn4 ▸ numL_lo (rs4 b).1)
  have HSM : Hid (sm.length ≤ 8) := Lib.hid (hsm ▸ fieldL_n _ _ _ _)
  have H1 : Hid ((fieldL b ⟨0, 0, 0⟩ 0 1).2 = (rs1 b).2 ∧ numL (fieldL b ⟨0, 0, 0⟩ 0 1).1 = n1) := Lib.hid ⟨rfl, hn1⟩
  have H2 : Hid ((fieldL b (rs1 b).2 0 4).2 = (rs2 b).2 ∧ numL (fieldL b (rs1 b).2 0 4).1 = n2) := Lib.hid ⟨rfl, hn2⟩
  have H3 : Hid ((fieldL b (rs2 b).2 0 1).2 = (rs3 b).2 ∧ numL (fieldL b (rs2 b).2 0 1).1 = n3) := Lib.hid ⟨rfl, hn3⟩
  have H4 : Hid ((fieldL b (rs3 b).2 0 1).2 = (rs4 b).2 ∧ numL (fieldL b (rs3 b).2 0 1).1 = n4) := Lib.hid ⟨rfl, hn4⟩
  have H5 : Hid ((fieldL b (rs4 b).2 0 8).2 = (rs5 b).2 ∧ (fieldL b (rs4 b).2 0 8).1 = sm) := Lib.hid ⟨rfl, hsm⟩
  have E : Hid (numL (rs1 b).1 = n1 ∧ numL (rs2 b).1 = n2 ∧ numL (rs3 b).1 = n3 ∧ numL (rs4 b).1 = n4 ∧ (rs5 b).1 = sm) := Lib.hid ⟨hn1, hn2, hn3, hn4, hsm⟩
  clear hv hn1 hn2 hn3 hn4 hsm
  go_enter Tryd.func50, Tryd.ntmps50
  go_wp2_with fail
  refine wp_scope_jumps 0 (RJ w w.heap.size b) (fun _ _ => 0) rfl ?first ?pass
  case first =>
    go_wp2_with (first
      | (go_at_call 67; go_must (refine (newReader_any _ b _ (HV.out.kp0 (by (repeat (first | exact Kp.refl _ _ | assumption | refine Kp.drewN ?_ _ | refine Kp.drew ?_ | refine Kp.alloc ?_ _ | refine Kp.trans0 ?_ (by assumption))))) hb).mono ?_; rintro e w1 ⟨p, rv, rfl, hr1, hk1⟩; have HS1 := Lib.hid (rs_start hr1 hk1); clear hr1 hk1))
      | (go_at_call 68; (with_reducible refine (rs_u8 HS1.out H1.out.1 H1.out.2).mono ?_); rintro e w2 ⟨rfl, hr2⟩; have HS2 := Lib.hid hr2; clear hr2)
      | (go_at_call 69; go_must (refine (rs_u32 HS2.out H2.out.1 H2.out.2).mono ?_; rintro e w3 ⟨rfl, hr3⟩; have HS3 := Lib.hid hr3; clear hr3))
      | (go_at_call 68; (with_reducible refine (rs_u8 HS3.out H3.out.1 H3.out.2).mono ?_); rintro e w4 ⟨rfl, hr4⟩; have HS4 := Lib.hid hr4; clear hr4)
      | (go_at_call 68; (with_reducible refine (rs_u8 HS4.out H4.out.1 H4.out.2).mono ?_); rintro e w5 ⟨rfl, hr5⟩; have HS5 := Lib.hid hr5; have c0 := hr5.c 0 _ rfl; have c1 := hr5.c 1 _ rfl; have c2 := hr5.c 2 _ rfl; have f0 := hr5.fz 0; have f1 := hr5.fz 1; have f2 := hr5.fz 2; clear hr5)
      | fail)
    have HS6 : Hid (RS w (((w5.setCell ⟨w.heap.size, 0, none⟩ (.int .u32 n2)).setCell ⟨w.heap.size, 1, none⟩ (.int .i64 n3)).setCell ⟨w.heap.size, 2, none⟩ (.int .i64 n4)) w.heap.size (pcl n2 n3 n4 s8 (.slice none 0 0)) p rv b (rs4 b).2) := Lib.hid HS5.out.head
    clear HS1 HS2 HS3 HS4 HS5 c0 c1 c2 f0 f1 f2
    generalize ((w5.setCell ⟨w.heap.size, 0, none⟩ (.int .u32 n2)).setCell ⟨w.heap.size, 1, none⟩ (.int .i64 n3)).setCell ⟨w.heap.size, 2, none⟩ (.int .i64 n4) = w6 at *
    refine wp_region_any (by kernel_rfl) ?_
    change wpAny _ _ _ _ _ _ _ w6.drew
    have HS7 := Lib.hid (HS6.out.keep (Kp.refl [] w6).drew)
    clear HS6
    generalize w6.drew = w7 at *
    have hal := fun W => run_all83 W w.heap.size
    refine wpAny_take (i := 0) (v := .pointer (some ⟨w.heap.size, 3, none⟩)) rfl (by kernel_rfl) (by kernel_rfl) (by kernel_rfl) (fun _ _ _ h => h) (Or.inl ⟨by rfl, by intro w; go_simp⟩) ?_
    refine wpAny_take (i := 2) (v := .pointer (some ⟨p, 0, none⟩)) rfl (by kernel_rfl) (by kernel_rfl) (by kernel_rfl) (fun _ _ _ h => h) (Or.inl ⟨by rfl, by intro w; go_simp⟩) ?_
    refine wpAny_take (i := 1) (v := .slice (some ⟨w.heap.size, 3, none⟩) 8 8) rfl (by kernel_rfl) (by kernel_rfl) (by kernel_rfl) (fun _ _ _ h => h) (Or.inl ⟨by rfl, by intro w; go_simp⟩) ?_
    go_simp
    refine wpAny_ready (rs := [3]) (by kernel_rfl) (by simp) ?_
    refine AllReady.cons (o := ⟨some 25, .call { callee := .value (.func 70), args := #[.tmp 24, .const (.int .i64 8)], argTypes := #[138, 3] }, 27, "parcel.go:68", #[{ on := 2, ground := .data }], none⟩) rfl (fun K hK => ?_) AllReady.nil
    go_simp
    refine (rs_fixed 8 HS7.out (by decide) H5.out.1 H5.out.2).mono ?_
    rintro e w8 ⟨a8, k8, rfl, hr8, ho8⟩
    have HS8 := Lib.hid hr8
    obtain ⟨w9, hcp, hc9, hk9⟩ := run_copy8 3 hr8.hP (pcl_len _ _ _ _ _ rfl) ho8.rd HSM.out
    have HS9 := Lib.hid (hr8.put hk9 hc9 hr8.ne)
    clear hr8 ho8 HS7 hc9 hk9
    go_simp
    refine hK _ _ ?_
    clear hK K
    go_simp
    refine wpAny_ready (rs := [4]) (by kernel_rfl) (by simp) ?_
    refine AllReady.cons (o := ⟨some 26, .call { callee := .builtin .copy, args := #[.tmp 23, .tmp 25], argTypes := #[27, 27] }, 3, "parcel.go:68", #[{ on := 1, ground := .data }, { on := 3, ground := .data }, { on := 3, ground := .chain }], none⟩) rfl (fun K hK => ?_) AllReady.nil
    go_simp
    refine hK _ _ ?_
    clear hK K
    go_simp
    refine wpAny_done (by kernel_rfl) ?_ _
    clear hcp HS8
    by_cases hf : (rs5 b).2.f = 0
    · have hl8 : sm.length = 8 := by rw [← E.out.2.2.2.2]; exact rs5_len hf
      have HS10 : Hid (RS w w9 w.heap.size (pcl n2 n3 n4 sm (.slice none 0 0)) p rv b (rs5 b).2) := Lib.hid (by
        have := HS9.out
        rw [splice_pcl _ _ _ _ _ _ rfl hl8] at this
        exact this)
      have HL8 := Lib.hid hl8
      have c1 := HS10.out.c 1 _ rfl
      have c2 := HS10.out.c 2 _ rfl
      clear HS9 hl8
      have HF := Lib.hid hf
      have HFA := Lib.hid (rFault_ok _ p rv b _ w9 HS10.out.r hf)
      clear hf
      by_cases h1 : n1 = 5
      · subst h1
        by_cases h3 : n3 < 1
        · go_wp2_with (first
            | (go_at_call 71; go_must (refine HFA.out.mono ?_; rintro e w10 ⟨rfl, rfl⟩))
            | fail)
          refine wp_goto ?_
          refine ⟨rfl, ?_⟩
          exact RJ.mk (readL_none2 (.inl (by rw [E.out.2.2.1]; exact h3))) HS10.out.k (pcl_len _ _ _ _ _ HL8.out) HS10.out.hP
        · by_cases h4 : 64 < n3
          · go_wp2_with (first
              | (go_at_call 71; go_must (refine HFA.out.mono ?_; rintro e w10 ⟨rfl, rfl⟩))
              | fail)
            refine wp_goto ?_
            refine ⟨rfl, ?_⟩
            exact RJ.mk (readL_none2 (.inr (.inl (by rw [E.out.2.2.1]; exact h4)))) HS10.out.k (pcl_len _ _ _ _ _ HL8.out) HS10.out.hP
          · by_cases h5 : n3 ≤ n4
            · go_wp2_with (first
                | (go_at_call 71; go_must (refine HFA.out.mono ?_; rintro e w10 ⟨rfl, rfl⟩))
                | fail)
              refine wp_goto ?_
              refine ⟨rfl, ?_⟩
              exact RJ.mk (readL_none2 (.inr (.inr (by rw [E.out.2.2.1, E.out.2.2.2.1]; exact h5)))) HS10.out.k (pcl_len _ _ _ _ _ HL8.out) HS10.out.hP
            · have hat := HS10.out.r.hat
              have hbb := hb
              obtain ⟨at5, ha5⟩ : ∃ a, (rs5 b).2.at_ = a := ⟨_, rfl⟩
              obtain ⟨ct, hct⟩ : ∃ c, (rs6 b).1 = c := ⟨_, rfl⟩
              have H6 : Hid ((fieldL b (rs5 b).2 0 ((b.length : Int) - (at5 : Int))).2 = (rs6 b).2 ∧ (fieldL b (rs5 b).2 0 ((b.length : Int) - (at5 : Int))).1 = ct) := Lib.hid (by rw [← ha5]; exact ⟨rfl, hct⟩)
              have HLE := Lib.hid (left_any _ p rv b _ w9 HS10.out.r)
              rw [ha5] at hat HLE
              have HCT := Lib.hid hct
              have HC0 : Hid ((b.length : Int) - (at5 : Int) ≤ 211106232532992) := Lib.hid (by omega)
              have c11 := HS10.out.c 11 (.slice none 0 0) (pcl_11 _ _ _ _ _ HL8.out)
              have HCL : Hid (ct.length ≤ b.length) := Lib.hid (by rw [← hct]; exact fieldL_len _ _ _ _)
              clear ha5 hct hat hbb
              clear HV
              by_cases g1 : 497 < ct.length
              · have g1I : (497 : Int) < (ct.length : Int) := by omega
                go_wp2_with (first
                  | (go_at_call 71; go_must (refine HFA.out.mono ?_; rintro e w10 ⟨rfl, rfl⟩))
                  | (go_at_call 72; go_must (refine HLE.out.mono ?_; rintro e w11 ⟨rfl, nn, rfl⟩; have HS11 := Lib.hid (HS10.out.keep ((Kp.refl [] w9).drewN nn)); generalize w9.drewN nn = w11 at *))
                  | (go_at_call 70; go_must (refine (rs_fixed ((b.length : Int) - (at5 : Int)) HS11.out HC0.out H6.out.1 H6.out.2).mono ?_; rintro e w12 ⟨a12, k12, rfl, hr12, ho12⟩; have HRE : Hid (RE w (w12.setCell ⟨w.heap.size, 11, none⟩ (.slice a12 ct.length k12)) w.heap.size (pcl n2 n3 n4 sm (.slice a12 ct.length k12)) (.slice a12 ct.length k12) ct) := Lib.hid (hr12.fin (Nat.lt_of_lt_of_le HS11.out.hlt (Nat.le_of_lt HS11.out.r.lt)) HS11.out.k.size ho12 HL8.out); have c11 := hr12.c 11 (.slice none 0 0) (pcl_11 _ _ _ _ _ HL8.out); have f11 := hr12.fz 11; clear hr12 ho12 c1 c2 HS11; obtain ⟨w13, hw13⟩ : ∃ W, W = w12.setCell ⟨w.heap.size, 11, none⟩ (.slice a12 ct.length k12) := ⟨_, rfl⟩; rw [← hw13] at HRE; have d1 := HRE.out.c 1 _ rfl; have d2 := HRE.out.c 2 _ rfl; have d11 := HRE.out.c 11 _ (pcl_11 _ _ _ _ _ HL8.out)))
                  | (rw [← hw13]; clear hw13 c11 f11)
                  | fail)
                refine wp_goto ?_
                refine ⟨rfl, ?_⟩
                exact RJ.mk (readL_none3 (.inl (by rw [HCT.out]; exact g1))) HRE.out.k (pcl_len _ _ _ _ _ HL8.out) HRE.out.hP
              · have g1I : ¬ (497 : Int) < (ct.length : Int) := by omega
                by_cases g2 : n4 < n3 - 1
                · by_cases g3 : ct.length < 497
                  · have g3I : (ct.length : Int) < 497 := by omega
                    go_wp2_with (first
                      | (go_at_call 71; go_must (refine HFA.out.mono ?_; rintro e w10 ⟨rfl, rfl⟩))
                      | (go_at_call 72; go_must (refine HLE.out.mono ?_; rintro e w11 ⟨rfl, nn, rfl⟩; have HS11 := Lib.hid (HS10.out.keep ((Kp.refl [] w9).drewN nn)); generalize w9.drewN nn = w11 at *))
                      | (go_at_call 70; go_must (refine (rs_fixed ((b.length : Int) - (at5 : Int)) HS11.out HC0.out H6.out.1 H6.out.2).mono ?_; rintro e w12 ⟨a12, k12, rfl, hr12, ho12⟩; have HRE : Hid (RE w (w12.setCell ⟨w.heap.size, 11, none⟩ (.slice a12 ct.length k12)) w.heap.size (pcl n2 n3 n4 sm (.slice a12 ct.length k12)) (.slice a12 ct.length k12) ct) := Lib.hid (hr12.fin (Nat.lt_of_lt_of_le HS11.out.hlt (Nat.le_of_lt HS11.out.r.lt)) HS11.out.k.size ho12 HL8.out); have c11 := hr12.c 11 (.slice none 0 0) (pcl_11 _ _ _ _ _ HL8.out); have f11 := hr12.fz 11; clear hr12 ho12 c1 c2 HS11; obtain ⟨w13, hw13⟩ : ∃ W, W = w12.setCell ⟨w.heap.size, 11, none⟩ (.slice a12 ct.length k12) := ⟨_, rfl⟩; rw [← hw13] at HRE; have d1 := HRE.out.c 1 _ rfl; have d2 := HRE.out.c 2 _ rfl; have d11 := HRE.out.c 11 _ (pcl_11 _ _ _ _ _ HL8.out)))
                      | (rw [← hw13]; clear hw13 c11 f11)
                      | fail)
                    refine wp_goto ?_
                    refine ⟨rfl, ?_⟩
                    exact RJ.mk (readL_none3 (.inr (.inl ⟨by rw [E.out.2.2.1, E.out.2.2.2.1]; exact g2, by rw [HCT.out]; exact g3⟩))) HRE.out.k (pcl_len _ _ _ _ _ HL8.out) HRE.out.hP
                  · have g3I : ¬ (ct.length : Int) < 497 := by omega
                    have g4L : ¬ ct = [] := fun hh => by have h0 := congrArg List.length hh; simp only [List.length_nil] at h0; omega
                    have HOK : Hid (readL b = some (prtOf b)) := Lib.hid (readL_some HF.out E.out.1 (by rw [E.out.2.2.1]; omega) (by rw [E.out.2.2.1]; omega) (by rw [E.out.2.2.1, E.out.2.2.2.1]; omega) (by rw [HCT.out]; omega) (fun hh => by rw [E.out.2.2.1, E.out.2.2.2.1] at hh; rw [HCT.out]; omega) (fun hh => by rw [HCT.out] at hh; rw [E.out.2.2.1]; omega))
                    go_wp2_with (first
                      | (go_at_call 71; go_must (refine HFA.out.mono ?_; rintro e w10 ⟨rfl, rfl⟩))
                      | (go_at_call 72; go_must (refine HLE.out.mono ?_; rintro e w11 ⟨rfl, nn, rfl⟩; have HS11 := Lib.hid (HS10.out.keep ((Kp.refl [] w9).drewN nn)); generalize w9.drewN nn = w11 at *))
                      | (go_at_call 70; go_must (refine (rs_fixed ((b.length : Int) - (at5 : Int)) HS11.out HC0.out H6.out.1 H6.out.2).mono ?_; rintro e w12 ⟨a12, k12, rfl, hr12, ho12⟩; have HRE : Hid (RE w (w12.setCell ⟨w.heap.size, 11, none⟩ (.slice a12 ct.length k12)) w.heap.size (pcl n2 n3 n4 sm (.slice a12 ct.length k12)) (.slice a12 ct.length k12) ct) := Lib.hid (hr12.fin (Nat.lt_of_lt_of_le HS11.out.hlt (Nat.le_of_lt HS11.out.r.lt)) HS11.out.k.size ho12 HL8.out); have c11 := hr12.c 11 (.slice none 0 0) (pcl_11 _ _ _ _ _ HL8.out); have f11 := hr12.fz 11; clear hr12 ho12 c1 c2 HS11; obtain ⟨w13, hw13⟩ : ∃ W, W = w12.setCell ⟨w.heap.size, 11, none⟩ (.slice a12 ct.length k12) := ⟨_, rfl⟩; rw [← hw13] at HRE; have d1 := HRE.out.c 1 _ rfl; have d2 := HRE.out.c 2 _ rfl; have d11 := HRE.out.c 11 _ (pcl_11 _ _ _ _ _ HL8.out)))
                      | (rw [← hw13]; clear hw13 c11 f11)
                      | ((with_reducible show wpList _ _ _ ({ dst := some 81, op := _, type := _, pos := _, after := _, guard := _ } :: _) _ _); go_must ((with_reducible refine wpList_load_row ?t1a1 101 (.tmp 2) ?t1a2 w.heap.size ?t1a3 101 (pcl n2 n3 n4 sm (.slice a12 ct.length k12)).toArray (0, 0) ?t1a4 ?t1a5 ?t1a6 ?t1a7 ?t1a8 ?t1a9); (case t1a1 => rfl); (case t1a2 => rfl); (case t1a3 => rfl); (case t1a5 => exact HRE.out.hP); (case t1a6 => exact Tryd.underlying101); (case t1a7 => rfl); (case t1a8 => (rw [List.size_toArray, pcl_len _ _ _ _ _ HL8.out]; kernel_rfl))))
                      | ((with_reducible show wpList _ _ _ ({ dst := none, op := Op.store _ (.tmp 2) (.tmp 81), type := _, pos := _, after := _, guard := _ } :: _) _ _); go_must ((with_reducible refine wpList_store_row ?t1b1 101 (.tmp 2) (.tmp 81) ?t1b2 w.heap.size (pcl n2 n3 n4 sm (.slice a12 ct.length k12)).toArray ?t1b3 ?t1b4 101 (pcl n2 n3 n4 sm (.slice a12 ct.length k12)).toArray ?t1b5 ?t1b6 ?t1b7 ?t1b8 ?t1b9); (case t1b1 => rfl); (case t1b2 => rfl); (case t1b3 => rfl); (case t1b4 => rfl); (case t1b5 => exact HRE.out.hP); (case t1b6 => (rw [List.size_toArray, pcl_len _ _ _ _ _ HL8.out]; kernel_rfl)); (case t1b7 => rfl); (case t1b8 => exact all_oneCell_toArray (pcl_one _ _ _ _ a12 (_, _)))))
                      | fail)
                    have r1 := setRow_heap _ w.heap.size _ (pcl n2 n3 n4 sm (.slice a12 ct.length k12)).toArray _ _ HRE.out.hP
                    have r2 := HRE.out.k.trans (kp_setRow _ w.heap.size (pcl n2 n3 n4 sm (.slice a12 ct.length k12)).toArray) (fun m hm => by rw [List.mem_singleton] at hm; subst hm; exact .inr (Nat.le_refl _))
                    have r3 := HRE.out.o.kp (kp_setRow _ w.heap.size (pcl n2 n3 n4 sm (.slice a12 ct.length k12)).toArray) (HRE.out.ne)
                    refine jump_ret ?_
                    exact bodyPost_ret (results_cell_row2 rfl _ _ w.heap.size 101 _ (0, 0) _ rfl r1 Tryd.underlying101 rfl (by rw [List.size_toArray, pcl_len _ _ _ _ _ HL8.out]; kernel_rfl)) rfl ⟨r2, .inr ⟨_, (.slice a12 ct.length k12), HOK.out, by rw [show prtOf b = ⟨n2, n3, n4, sm, ct⟩ by unfold prtOf; rw [E.out.2.1, E.out.2.2.1, E.out.2.2.2.1, E.out.2.2.2.2, HCT.out]]; first | done | rfl, by rw [show (prtOf b).cont = ct from HCT.out]; exact r3⟩⟩
                · by_cases g4 : ct.length = 0
                  · obtain rfl := List.eq_nil_of_length_eq_zero g4
                    clear g1I
                    by_cases g5 : 1 < n3
                    · go_wp2_with (first
                        | (go_at_call 71; go_must (refine HFA.out.mono ?_; rintro e w10 ⟨rfl, rfl⟩))
                        | (go_at_call 72; go_must (refine HLE.out.mono ?_; rintro e w11 ⟨rfl, nn, rfl⟩; have HS11 := Lib.hid (HS10.out.keep ((Kp.refl [] w9).drewN nn)); generalize w9.drewN nn = w11 at *))
                        | (go_at_call 70; go_must (refine (rs_fixed ((b.length : Int) - (at5 : Int)) HS11.out HC0.out H6.out.1 H6.out.2).mono ?_; rintro e w12 ⟨a12, k12, rfl, hr12, ho12⟩; have HRE : Hid (RE w (w12.setCell ⟨w.heap.size, 11, none⟩ (.slice a12 0 k12)) w.heap.size (pcl n2 n3 n4 sm (.slice a12 0 k12)) (.slice a12 0 k12) []) := Lib.hid (hr12.fin (Nat.lt_of_lt_of_le HS11.out.hlt (Nat.le_of_lt HS11.out.r.lt)) HS11.out.k.size ho12 HL8.out); have c11 := hr12.c 11 (.slice none 0 0) (pcl_11 _ _ _ _ _ HL8.out); have f11 := hr12.fz 11; clear hr12 ho12 c1 c2 HS11; obtain ⟨w13, hw13⟩ : ∃ W, W = w12.setCell ⟨w.heap.size, 11, none⟩ (.slice a12 0 k12) := ⟨_, rfl⟩; rw [← hw13] at HRE; have d1 := HRE.out.c 1 _ rfl; have d2 := HRE.out.c 2 _ rfl; have d11 := HRE.out.c 11 _ (pcl_11 _ _ _ _ _ HL8.out)))
                        | (rw [← hw13]; clear hw13 c11 f11)
                        | fail)
                      refine wp_goto ?_
                      refine ⟨rfl, ?_⟩
                      exact RJ.mk (readL_none3 (.inr (.inr ⟨by rw [HCT.out]; exact rfl, by rw [E.out.2.2.1]; exact g5⟩))) HRE.out.k (pcl_len _ _ _ _ _ HL8.out) HRE.out.hP
                    · have HOK : Hid (readL b = some (prtOf b)) := Lib.hid (readL_some HF.out E.out.1 (by rw [E.out.2.2.1]; omega) (by rw [E.out.2.2.1]; omega) (by rw [E.out.2.2.1, E.out.2.2.2.1]; omega) (by rw [HCT.out]; exact Nat.zero_le _) (fun hh => by rw [E.out.2.2.1, E.out.2.2.2.1] at hh; rw [HCT.out]; omega) (fun _ => by rw [E.out.2.2.1]; omega))
                      go_wp2_with (first
                        | (go_at_call 71; go_must (refine HFA.out.mono ?_; rintro e w10 ⟨rfl, rfl⟩))
                        | (go_at_call 72; go_must (refine HLE.out.mono ?_; rintro e w11 ⟨rfl, nn, rfl⟩; have HS11 := Lib.hid (HS10.out.keep ((Kp.refl [] w9).drewN nn)); generalize w9.drewN nn = w11 at *))
                        | (go_at_call 70; go_must (refine (rs_fixed ((b.length : Int) - (at5 : Int)) HS11.out HC0.out H6.out.1 H6.out.2).mono ?_; rintro e w12 ⟨a12, k12, rfl, hr12, ho12⟩; have HRE : Hid (RE w (w12.setCell ⟨w.heap.size, 11, none⟩ (.slice a12 0 k12)) w.heap.size (pcl n2 n3 n4 sm (.slice a12 0 k12)) (.slice a12 0 k12) []) := Lib.hid (hr12.fin (Nat.lt_of_lt_of_le HS11.out.hlt (Nat.le_of_lt HS11.out.r.lt)) HS11.out.k.size ho12 HL8.out); have c11 := hr12.c 11 (.slice none 0 0) (pcl_11 _ _ _ _ _ HL8.out); have f11 := hr12.fz 11; clear hr12 ho12 c1 c2 HS11; obtain ⟨w13, hw13⟩ : ∃ W, W = w12.setCell ⟨w.heap.size, 11, none⟩ (.slice a12 0 k12) := ⟨_, rfl⟩; rw [← hw13] at HRE; have d1 := HRE.out.c 1 _ rfl; have d2 := HRE.out.c 2 _ rfl; have d11 := HRE.out.c 11 _ (pcl_11 _ _ _ _ _ HL8.out)))
                        | (rw [← hw13]; clear hw13 c11 f11)
                        | ((with_reducible show wpList _ _ _ ({ dst := some 81, op := _, type := _, pos := _, after := _, guard := _ } :: _) _ _); go_must ((with_reducible refine wpList_load_row ?t2a1 101 (.tmp 2) ?t2a2 w.heap.size ?t2a3 101 (pcl n2 n3 n4 sm (.slice a12 0 k12)).toArray (0, 0) ?t2a4 ?t2a5 ?t2a6 ?t2a7 ?t2a8 ?t2a9); (case t2a1 => rfl); (case t2a2 => rfl); (case t2a3 => rfl); (case t2a5 => exact HRE.out.hP); (case t2a6 => exact Tryd.underlying101); (case t2a7 => rfl); (case t2a8 => (rw [List.size_toArray, pcl_len _ _ _ _ _ HL8.out]; kernel_rfl))))
                        | ((with_reducible show wpList _ _ _ ({ dst := none, op := Op.store _ (.tmp 2) (.tmp 81), type := _, pos := _, after := _, guard := _ } :: _) _ _); go_must ((with_reducible refine wpList_store_row ?t2b1 101 (.tmp 2) (.tmp 81) ?t2b2 w.heap.size (pcl n2 n3 n4 sm (.slice a12 0 k12)).toArray ?t2b3 ?t2b4 101 (pcl n2 n3 n4 sm (.slice a12 0 k12)).toArray ?t2b5 ?t2b6 ?t2b7 ?t2b8 ?t2b9); (case t2b1 => rfl); (case t2b2 => rfl); (case t2b3 => rfl); (case t2b4 => rfl); (case t2b5 => exact HRE.out.hP); (case t2b6 => (rw [List.size_toArray, pcl_len _ _ _ _ _ HL8.out]; kernel_rfl)); (case t2b7 => rfl); (case t2b8 => exact all_oneCell_toArray (pcl_one _ _ _ _ a12 (_, _)))))
                        | fail)
                      have r1 := setRow_heap _ w.heap.size _ (pcl n2 n3 n4 sm (.slice a12 0 k12)).toArray _ _ HRE.out.hP
                      have r2 := HRE.out.k.trans (kp_setRow _ w.heap.size (pcl n2 n3 n4 sm (.slice a12 0 k12)).toArray) (fun m hm => by rw [List.mem_singleton] at hm; subst hm; exact .inr (Nat.le_refl _))
                      have r3 := HRE.out.o.kp (kp_setRow _ w.heap.size (pcl n2 n3 n4 sm (.slice a12 0 k12)).toArray) (HRE.out.ne)
                      refine jump_ret ?_
                      exact bodyPost_ret (results_cell_row2 rfl _ _ w.heap.size 101 _ (0, 0) _ rfl r1 Tryd.underlying101 rfl (by rw [List.size_toArray, pcl_len _ _ _ _ _ HL8.out]; kernel_rfl)) rfl ⟨r2, .inr ⟨_, (.slice a12 0 k12), HOK.out, by rw [show prtOf b = ⟨n2, n3, n4, sm, []⟩ by unfold prtOf; rw [E.out.2.1, E.out.2.2.1, E.out.2.2.2.1, E.out.2.2.2.2, HCT.out]]; first | done | rfl, by rw [show (prtOf b).cont = [] from HCT.out]; exact r3⟩⟩
                  · have g4L : ¬ ct = [] := fun hh => by have h0 := congrArg List.length hh; simp only [List.length_nil] at h0; omega
                    have HOK : Hid (readL b = some (prtOf b)) := Lib.hid (readL_some HF.out E.out.1 (by rw [E.out.2.2.1]; omega) (by rw [E.out.2.2.1]; omega) (by rw [E.out.2.2.1, E.out.2.2.2.1]; omega) (by rw [HCT.out]; omega) (fun hh => by rw [E.out.2.2.1, E.out.2.2.2.1] at hh; rw [HCT.out]; omega) (fun hh => by rw [HCT.out] at hh; rw [E.out.2.2.1]; omega))
                    go_wp2_with (first
                      | (go_at_call 71; go_must (refine HFA.out.mono ?_; rintro e w10 ⟨rfl, rfl⟩))
                      | (go_at_call 72; go_must (refine HLE.out.mono ?_; rintro e w11 ⟨rfl, nn, rfl⟩; have HS11 := Lib.hid (HS10.out.keep ((Kp.refl [] w9).drewN nn)); generalize w9.drewN nn = w11 at *))
                      | (go_at_call 70; go_must (refine (rs_fixed ((b.length : Int) - (at5 : Int)) HS11.out HC0.out H6.out.1 H6.out.2).mono ?_; rintro e w12 ⟨a12, k12, rfl, hr12, ho12⟩; have HRE : Hid (RE w (w12.setCell ⟨w.heap.size, 11, none⟩ (.slice a12 ct.length k12)) w.heap.size (pcl n2 n3 n4 sm (.slice a12 ct.length k12)) (.slice a12 ct.length k12) ct) := Lib.hid (hr12.fin (Nat.lt_of_lt_of_le HS11.out.hlt (Nat.le_of_lt HS11.out.r.lt)) HS11.out.k.size ho12 HL8.out); have c11 := hr12.c 11 (.slice none 0 0) (pcl_11 _ _ _ _ _ HL8.out); have f11 := hr12.fz 11; clear hr12 ho12 c1 c2 HS11; obtain ⟨w13, hw13⟩ : ∃ W, W = w12.setCell ⟨w.heap.size, 11, none⟩ (.slice a12 ct.length k12) := ⟨_, rfl⟩; rw [← hw13] at HRE; have d1 := HRE.out.c 1 _ rfl; have d2 := HRE.out.c 2 _ rfl; have d11 := HRE.out.c 11 _ (pcl_11 _ _ _ _ _ HL8.out)))
                      | (rw [← hw13]; clear hw13 c11 f11)
                      | ((with_reducible show wpList _ _ _ ({ dst := some 81, op := _, type := _, pos := _, after := _, guard := _ } :: _) _ _); go_must ((with_reducible refine wpList_load_row ?t3a1 101 (.tmp 2) ?t3a2 w.heap.size ?t3a3 101 (pcl n2 n3 n4 sm (.slice a12 ct.length k12)).toArray (0, 0) ?t3a4 ?t3a5 ?t3a6 ?t3a7 ?t3a8 ?t3a9); (case t3a1 => rfl); (case t3a2 => rfl); (case t3a3 => rfl); (case t3a5 => exact HRE.out.hP); (case t3a6 => exact Tryd.underlying101); (case t3a7 => rfl); (case t3a8 => (rw [List.size_toArray, pcl_len _ _ _ _ _ HL8.out]; kernel_rfl))))
                      | ((with_reducible show wpList _ _ _ ({ dst := none, op := Op.store _ (.tmp 2) (.tmp 81), type := _, pos := _, after := _, guard := _ } :: _) _ _); go_must ((with_reducible refine wpList_store_row ?t3b1 101 (.tmp 2) (.tmp 81) ?t3b2 w.heap.size (pcl n2 n3 n4 sm (.slice a12 ct.length k12)).toArray ?t3b3 ?t3b4 101 (pcl n2 n3 n4 sm (.slice a12 ct.length k12)).toArray ?t3b5 ?t3b6 ?t3b7 ?t3b8 ?t3b9); (case t3b1 => rfl); (case t3b2 => rfl); (case t3b3 => rfl); (case t3b4 => rfl); (case t3b5 => exact HRE.out.hP); (case t3b6 => (rw [List.size_toArray, pcl_len _ _ _ _ _ HL8.out]; kernel_rfl)); (case t3b7 => rfl); (case t3b8 => exact all_oneCell_toArray (pcl_one _ _ _ _ a12 (_, _)))))
                      | fail)
                    have r1 := setRow_heap _ w.heap.size _ (pcl n2 n3 n4 sm (.slice a12 ct.length k12)).toArray _ _ HRE.out.hP
                    have r2 := HRE.out.k.trans (kp_setRow _ w.heap.size (pcl n2 n3 n4 sm (.slice a12 ct.length k12)).toArray) (fun m hm => by rw [List.mem_singleton] at hm; subst hm; exact .inr (Nat.le_refl _))
                    have r3 := HRE.out.o.kp (kp_setRow _ w.heap.size (pcl n2 n3 n4 sm (.slice a12 ct.length k12)).toArray) (HRE.out.ne)
                    refine jump_ret ?_
                    exact bodyPost_ret (results_cell_row2 rfl _ _ w.heap.size 101 _ (0, 0) _ rfl r1 Tryd.underlying101 rfl (by rw [List.size_toArray, pcl_len _ _ _ _ _ HL8.out]; kernel_rfl)) rfl ⟨r2, .inr ⟨_, (.slice a12 ct.length k12), HOK.out, by rw [show prtOf b = ⟨n2, n3, n4, sm, ct⟩ by unfold prtOf; rw [E.out.2.1, E.out.2.2.1, E.out.2.2.2.1, E.out.2.2.2.2, HCT.out]]; first | done | rfl, by rw [show (prtOf b).cont = ct from HCT.out]; exact r3⟩⟩
      · go_wp2_with (first
          | (go_at_call 71; go_must (refine HFA.out.mono ?_; rintro e w10 ⟨rfl, rfl⟩))
          | fail)
        refine wp_goto ?_
        refine ⟨rfl, ?_⟩
        exact RJ.mk (readL_none1 (.inr (by rw [E.out.1]; exact h1))) HS10.out.k (pcl_len _ _ _ _ _ HL8.out) HS10.out.hP
    · have HFB := Lib.hid hf
      go_wp2_with (first
        | (go_at_call 71; go_must (refine (rFault_bad _ p rv b _ w9 HS9.out.r hf).mono ?_; rintro e w10 ⟨rfl, nn, rfl⟩))
        | fail)
      refine wp_goto ?_
      refine ⟨rfl, ?_⟩
      exact RJ.mk (readL_none1 (.inl HFB.out)) (HS9.out.k.drewN nn) (splice_len _ _ (pcl_len _ _ _ _ _ rfl) HSM.out) HS9.out.hP
  case pass =>
    rintro a' w' ⟨x0, x1, x3, x4, x5, x6, x7, x8, x9, x10, x11, x12, x13, x14, x15, x16, x17, x18, x19, x20, x21, x22, x23, x24, x25, x26, x27, x28, x29, x30, x31, x32, x33, x34, x35, x36, x37, x38, x39, x40, x41, x42, x43, x44, x45, x46, x47, x48, x49, x50, x51, x52, x53, x54, x55, x56, x57, x58, x59, x60, x61, x62, x63, x64, x65, x66, x67, x68, x69, x70, x71, x72, x73, x74, x75, x76, x77, x78, x79, x80, x81, x82, rfl, hnone, hk, cs, hcl, hcs⟩
    have HNO := Lib.hid hnone
    have HK := Lib.hid hk
    have HCL := Lib.hid hcl
    have HCS := Lib.hid hcs
    clear hnone hk hcl hcs HV
    go_wp2_with (first
      | ((with_reducible refine wpList_store_row ?b1 101 (.tmp 2) (.tmp 82) ?b2 w.heap.size (pcl 0 0 0 s8 (.slice none 0 0)).toArray ?b3 ?b4 101 cs.toArray ?b5 ?b6 ?b7 ?b8 ?b9); (case b1 => rfl); (case b2 => rfl); (case b3 => rfl); (case b4 => rfl); (case b5 => exact HCS.out); (case b6 => kernel_rfl); (case b7 => (rw [List.size_toArray, HCL.out]; rfl)); (case b8 => exact all_oneCell_toArray (pcl_one _ _ _ _ none (0, 0))))
      | fail)

    have r1 := setRow_heap _ w.heap.size _ (pcl 0 0 0 s8 (.slice none 0 0)).toArray _ _ HCS.out
    have r2 := HK.out.trans (kp_setRow _ w.heap.size (pcl 0 0 0 s8 (.slice none 0 0)).toArray) (fun m hm => by rw [List.mem_singleton] at hm; subst hm; exact .inr (Nat.le_refl _))
    refine jump_ret ?_
    exact bodyPost_ret (results_cell_row2 rfl _ _ w.heap.size 101 _ (0, 0) _ rfl r1 Tryd.underlying101 rfl (by kernel_rfl)) rfl ⟨r2, .inl ⟨HNO.out, rfl⟩⟩
end Go.Proofs.YtkceaepbjdfccaaDoor
