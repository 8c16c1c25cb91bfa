/-
(*parcel.Tray).Add: the walks.
-/
import Derived.Test.YtkceaepbjdfccaaDoorPar13
namespace Go.Proofs.YtkceaepbjdfccaaDoor
open Go.RowKit
set_option maxRecDepth 100000 in
set_option maxHeartbeats 2000000 in
theorem add_count (mk : List UInt8 → List UInt8) (w : World) (G : Nat → Prop) (t : Nat) (most : Int) (B : Nat) (Z : List Zt) (p : List UInt8) (v : Value) (q : Prt) (h : AH mk w G t most B Z p v q) (z : Zt) (hz : findZ Z (p, q.id) = some z) (hcnt : (z.e.parts.length : Int) ≠ q.cnt) : Calls Tryd.prog 26 #[.pointer (some ⟨t, 0, none⟩), .string (strOf p), v] w fun e w' => e = .returned (.tuple #[.int .u32 0, .bool false, .int .i64 260]) ∧ Kp [] w w' := by
  have HCNT := Lib.hid hcnt
  clear hcnt
  have HZF := Lib.hid hz
  have HZM := Lib.hid (findZ_mem hz).1
  have HN := Lib.hid h.hn
  have HRD := Lib.hid h.hr
  have HZ0 := Lib.hid h.z
  have HQ := Lib.hid h.qo
  have HKO := Lib.hid h.ko
  have HTB := Lib.hid h.mc
  have HML := Lib.hid h.ml
  have HGL := Lib.hid h.gl
  have HLK : Hid (∀ W, TRz W G t most B Z → (Instr.lookup 97 (.map (some B)) (.agg #[.string (strOf p), .int .u32 q.id]) false).run Tryd.prog W = .ok (.pointer (some ⟨z.pb, 0, none⟩)) W) := Lib.hid (fun W hW => by have := hW.m.lookup (k := (p, q.id)) h.ko; rw [lookK_Zk, hz] at this; exact this)
  clear h
  go_enter Tryd.func26, Tryd.ntmps26
  go_wp2_with (first
    | (go_at_call 49; go_must (refine HN.out.mono ?_; rintro e w1 ⟨rfl, rfl⟩))
    | (go_at_call 50; go_must (refine HRD.out.mono ?_; rintro e w1 ⟨a1, c1, rfl, ho1, hk1⟩; have HO1 := Lib.hid ho1; have HK1 := Lib.hid hk1; clear ho1 hk1))
    | ((with_reducible show wpList _ _ _ ({ dst := none, op := Op.store _ (.tmp 9) (.tmp 20), type := _, pos := _, after := _, guard := _ } :: _) _ _); go_must ((with_reducible refine wpList_store_row ?b1 101 (.tmp 9) (.tmp 20) ?b2 w1.heap.size (pcl q.id q.cnt q.idx q.sum (.slice a1 q.cont.length c1)).toArray ?b3 ?b4 101 (pcl 0 0 0 s8 (.slice none 0 0)).toArray ?b5 ?b6 ?b7 ?b8 ?b9); (case b1 => rfl); (case b2 => rfl); (case b3 => rfl); (case b4 => rfl); (case b5 => exact heap_alloc_new w1 _); (case b6 => (rw [List.size_toArray, pcl_len _ _ _ _ _ HQ.out.s]; kernel_rfl)); (case b7 => (rw [List.size_toArray, List.size_toArray, pcl_len _ _ _ _ _ HQ.out.s]; rfl)); (case b8 => exact all_oneCell_toArray (pcl_one _ _ _ _ a1 (_, _))); change wpList _ _ _ _ _ ((w1.alloc (.cells (pcl 0 0 0 s8 (.slice none 0 0)).toArray 101)).setRow w1.heap.size (pcl q.id q.cnt q.idx q.sum (.slice a1 q.cont.length c1)).toArray); have HAD := Lib.hid (ad_start (p := p) (O := (pcl 0 0 0 s8 (.slice none 0 0)).toArray) HZ0.out HQ.out HK1.out HO1.out (W2 := (w1.alloc (.cells (pcl 0 0 0 s8 (.slice none 0 0)).toArray 101)).setRow w1.heap.size (pcl q.id q.cnt q.idx q.sum (.slice a1 q.cont.length c1)).toArray) rfl); have c0 : ((w1.alloc (.cells (pcl 0 0 0 s8 (.slice none 0 0)).toArray 101)).setRow w1.heap.size (pcl q.id q.cnt q.idx q.sum (.slice a1 q.cont.length c1)).toArray).cell? ⟨w1.heap.size, 0, none⟩ = some (.int .u32 q.id) := (by rw [cell_of_row _ w1.heap.size 0 _ _ _ (setRow_heap _ _ _ _ _ _ (heap_alloc_new w1 _))]; rfl); generalize (w1.alloc (.cells (pcl 0 0 0 s8 (.slice none 0 0)).toArray 101)).setRow w1.heap.size (pcl q.id q.cnt q.idx q.sum (.slice a1 q.cont.length c1)).toArray = W2 at *))
    | fail)
  generalize w1.heap.size = xb at *
  generalize W2.heap.size = nb at *
  generalize W2.alloc (.cells #[.string (strOf p), .int .u32 q.id] 105) = W3 at *
  clear c0 HO1 HK1
  obtain ⟨ct0, ct1, cn0, cn1, cx0, cx1, cx2⟩ := HAD.out.c0
  have hlk : ∀ n, (Instr.lookup 97 (.map (some B)) (.agg #[.string (strOf p), .int .u32 q.id]) false).run Tryd.prog (W3.drewN n) = .ok (.pointer (some ⟨z.pb, 0, none⟩)) (W3.drewN n) := fun n => HLK.out _ (HAD.out.z.kp0 ((Kp.refl [] W3).drewN n))
  go_quiet (fail)
  have HAD4 := Lib.hid (HAD.out.kp ((Kp.refl [] W3).drewN nq))
  clear hlk HAD HLK ct0 ct1 cn0 cn1 cx0 cx1 cx2
  generalize W3.drewN nq = W4 at *
  clear hz
  obtain ⟨ct0, ct1, cn0, cn1, cx0, cx1, cx2⟩ := HAD4.out.c0
  go_wp2_with fail
  go_quiet (fail)
  have HAD5 := Lib.hid (HAD4.out.kp ((Kp.refl [] W4).drewN nq))
  clear HAD4 ct0 ct1 cn0 cn1 cx0 cx1 cx2
  generalize W4.drewN nq = W5 at *
  go_wp2_with fail
  have HPC5 := Lib.hid (HAD5.out.z.p z HZM.out)
  obtain ⟨ct0, ct1, cn0, cn1, cx0, cx1, cx2⟩ := HAD5.out.c0
  have c8' := HPC5.out.c8
  have hcb : ((z.e.parts.length : Int) != q.cnt) = true := by have := HCNT.out; simpa using this
  go_quiet (fail)
  go_wp2_with fail
  go_ret3
  exact ⟨rfl, HAD5.out.k.drewN nq⟩
set_option maxRecDepth 100000 in
set_option maxHeartbeats 2000000 in
theorem add_osum (mk : List UInt8 → List UInt8) (w : World) (G : Nat → Prop) (t : Nat) (most : Int) (B : Nat) (Z : List Zt) (p : List UInt8) (v : Value) (q : Prt) (h : AH mk w G t most B Z p v q) (z : Zt) (hz : findZ Z (p, q.id) = some z) (hcnt : (z.e.parts.length : Int) = q.cnt) (hsum : z.e.sum ≠ q.sum) : Calls Tryd.prog 26 #[.pointer (some ⟨t, 0, none⟩), .string (strOf p), v] w fun e w' => e = .returned (.tuple #[.int .u32 0, .bool false, .int .i64 260]) ∧ Kp [] w w' := by
  have HCNT := Lib.hid hcnt
  clear hcnt
  have HSUM := Lib.hid hsum
  clear hsum
  have HZF := Lib.hid hz
  have HZM := Lib.hid (findZ_mem hz).1
  have HN := Lib.hid h.hn
  have HRD := Lib.hid h.hr
  have HZ0 := Lib.hid h.z
  have HQ := Lib.hid h.qo
  have HKO := Lib.hid h.ko
  have HTB := Lib.hid h.mc
  have HML := Lib.hid h.ml
  have HGL := Lib.hid h.gl
  have HLK : Hid (∀ W, TRz W G t most B Z → (Instr.lookup 97 (.map (some B)) (.agg #[.string (strOf p), .int .u32 q.id]) false).run Tryd.prog W = .ok (.pointer (some ⟨z.pb, 0, none⟩)) W) := Lib.hid (fun W hW => by have := hW.m.lookup (k := (p, q.id)) h.ko; rw [lookK_Zk, hz] at this; exact this)
  clear h
  go_enter Tryd.func26, Tryd.ntmps26
  go_wp2_with (first
    | (go_at_call 49; go_must (refine HN.out.mono ?_; rintro e w1 ⟨rfl, rfl⟩))
    | (go_at_call 50; go_must (refine HRD.out.mono ?_; rintro e w1 ⟨a1, c1, rfl, ho1, hk1⟩; have HO1 := Lib.hid ho1; have HK1 := Lib.hid hk1; clear ho1 hk1))
    | ((with_reducible show wpList _ _ _ ({ dst := none, op := Op.store _ (.tmp 9) (.tmp 20), type := _, pos := _, after := _, guard := _ } :: _) _ _); go_must ((with_reducible refine wpList_store_row ?b1 101 (.tmp 9) (.tmp 20) ?b2 w1.heap.size (pcl q.id q.cnt q.idx q.sum (.slice a1 q.cont.length c1)).toArray ?b3 ?b4 101 (pcl 0 0 0 s8 (.slice none 0 0)).toArray ?b5 ?b6 ?b7 ?b8 ?b9); (case b1 => rfl); (case b2 => rfl); (case b3 => rfl); (case b4 => rfl); (case b5 => exact heap_alloc_new w1 _); (case b6 => (rw [List.size_toArray, pcl_len _ _ _ _ _ HQ.out.s]; kernel_rfl)); (case b7 => (rw [List.size_toArray, List.size_toArray, pcl_len _ _ _ _ _ HQ.out.s]; rfl)); (case b8 => exact all_oneCell_toArray (pcl_one _ _ _ _ a1 (_, _))); change wpList _ _ _ _ _ ((w1.alloc (.cells (pcl 0 0 0 s8 (.slice none 0 0)).toArray 101)).setRow w1.heap.size (pcl q.id q.cnt q.idx q.sum (.slice a1 q.cont.length c1)).toArray); have HAD := Lib.hid (ad_start (p := p) (O := (pcl 0 0 0 s8 (.slice none 0 0)).toArray) HZ0.out HQ.out HK1.out HO1.out (W2 := (w1.alloc (.cells (pcl 0 0 0 s8 (.slice none 0 0)).toArray 101)).setRow w1.heap.size (pcl q.id q.cnt q.idx q.sum (.slice a1 q.cont.length c1)).toArray) rfl); have c0 : ((w1.alloc (.cells (pcl 0 0 0 s8 (.slice none 0 0)).toArray 101)).setRow w1.heap.size (pcl q.id q.cnt q.idx q.sum (.slice a1 q.cont.length c1)).toArray).cell? ⟨w1.heap.size, 0, none⟩ = some (.int .u32 q.id) := (by rw [cell_of_row _ w1.heap.size 0 _ _ _ (setRow_heap _ _ _ _ _ _ (heap_alloc_new w1 _))]; rfl); generalize (w1.alloc (.cells (pcl 0 0 0 s8 (.slice none 0 0)).toArray 101)).setRow w1.heap.size (pcl q.id q.cnt q.idx q.sum (.slice a1 q.cont.length c1)).toArray = W2 at *))
    | fail)
  generalize w1.heap.size = xb at *
  generalize W2.heap.size = nb at *
  generalize W2.alloc (.cells #[.string (strOf p), .int .u32 q.id] 105) = W3 at *
  clear c0 HO1 HK1
  obtain ⟨ct0, ct1, cn0, cn1, cx0, cx1, cx2⟩ := HAD.out.c0
  have hlk : ∀ n, (Instr.lookup 97 (.map (some B)) (.agg #[.string (strOf p), .int .u32 q.id]) false).run Tryd.prog (W3.drewN n) = .ok (.pointer (some ⟨z.pb, 0, none⟩)) (W3.drewN n) := fun n => HLK.out _ (HAD.out.z.kp0 ((Kp.refl [] W3).drewN n))
  go_quiet (fail)
  have HAD4 := Lib.hid (HAD.out.kp ((Kp.refl [] W3).drewN nq))
  clear hlk HAD HLK ct0 ct1 cn0 cn1 cx0 cx1 cx2
  generalize W3.drewN nq = W4 at *
  clear hz
  obtain ⟨ct0, ct1, cn0, cn1, cx0, cx1, cx2⟩ := HAD4.out.c0
  go_wp2_with fail
  go_quiet (fail)
  have HAD5 := Lib.hid (HAD4.out.kp ((Kp.refl [] W4).drewN nq))
  clear HAD4 ct0 ct1 cn0 cn1 cx0 cx1 cx2
  generalize W4.drewN nq = W5 at *
  go_wp2_with fail
  have HPC5 := Lib.hid (HAD5.out.z.p z HZM.out)
  have hcb : ((z.e.parts.length : Int) != q.cnt) = false := by rw [HCNT.out]; simp
  have hne := fun W => mark_other z.e.sum q.sum HPC5.out.hs HQ.out.s HSUM.out W
  have hu1 := Tryd.underlying88
  have hi1 : (Tryd.prog.info? 88).map (·.size) = some (bv q.sum).length := by rw [bv_length, HQ.out.s]; kernel_rfl
  have hi2 : (Tryd.prog.info? 88).map (·.size) = some (bv z.e.sum).length := by rw [bv_length, HPC5.out.hs]; kernel_rfl
  refine wp_region_noPanic ?_
  refine wp_region_held_drew (S := fun w' => AD w w' G t most B Z xb nb q (.slice a1 q.cont.length c1) p ∧ PcAt w' G z.pb z.ab z.e.sum z.e.parts) (by kernel_rfl) (⟨HAD5.out.drew, HPC5.out.kp0 ((Kp.refl [] W5).drew)⟩) (fun hHeld => ?_)
  clear HAD5 HPC5
  generalize W5.drew = W6 at *
  refine wpAnyH_take (i := 0) (oi := { dst := some 61, op := Op.move (Operand.tmp 11), type := 106, pos := "parcel.go:158", after := #[], guard := none }) (v := .pointer (some ⟨z.pb, 0, none⟩)) rfl (by kernel_rfl) (by kernel_rfl) (by kernel_rfl) (fun _ _ _ h => h) (Or.inl ⟨by rfl, by intro w hSw; (try dsimp only at hSw); go_simp⟩) (by assumption) ?_
  try simp only [Act.put, List.setIfInBounds_toArray, List.set_cons_zero, List.set_cons_succ]
  refine wpAnyH_take (i := 1) (oi := { dst := some 62, op := Op.nilCheck (Operand.tmp 61), type := 0, pos := "parcel.go:158", after := #[{ on := 0, ground := Ground.data }], guard := none }) (v := .pointer (some ⟨z.pb, 0, none⟩)) rfl (by kernel_rfl) (by kernel_rfl) (by kernel_rfl) (fun _ _ _ h => h) (Or.inl ⟨by rfl, by intro w hSw; (try dsimp only at hSw); go_simp⟩) (by assumption) ?_
  try simp only [Act.put, List.setIfInBounds_toArray, List.set_cons_zero, List.set_cons_succ]
  refine wpAnyH_take (i := 2) (oi := { dst := some 63, op := Op.fieldAddr 109 (Operand.tmp 62) 1, type := 0, pos := "parcel.go:158", after := #[{ on := 1, ground := Ground.data }], guard := none }) (v := .pointer (some ⟨z.pb, 8, none⟩)) rfl (by kernel_rfl) (by kernel_rfl) (by kernel_rfl) (fun _ _ _ h => h) (Or.inl ⟨by rfl, by intro w hSw; (try dsimp only at hSw); go_simp⟩) (by assumption) ?_
  try simp only [Act.put, List.setIfInBounds_toArray, List.set_cons_zero, List.set_cons_succ]
  refine wpAnyH_take (i := 3) (oi := { dst := some 64, op := Op.load 107 (Operand.tmp 63), type := 107, pos := "parcel.go:158", after := #[{ on := 2, ground := Ground.data }], guard := none }) (v := .slice (some ⟨z.ab, 0, none⟩) z.e.parts.length z.e.parts.length) rfl (by kernel_rfl) (by kernel_rfl) (by kernel_rfl) (fun _ _ _ h => h) (Or.inl ⟨by rfl, by intro w hSw; (try dsimp only at hSw); have hcx := hSw.2.c8; go_simp⟩) (by assumption) ?_
  try simp only [Act.put, List.setIfInBounds_toArray, List.set_cons_zero, List.set_cons_succ]
  refine wpAnyH_take (i := 4) (oi := { dst := some 65, op := Op.call { callee := Callee.builtin Builtin.len, args := #[Operand.tmp 64], argTypes := #[107] }, type := 3, pos := "parcel.go:158", after := #[{ on := 3, ground := Ground.data }], guard := none }) (v := .int .i64 (z.e.parts.length : Int)) rfl (by kernel_rfl) (by kernel_rfl) (by kernel_rfl) (fun _ _ _ h => h) (Or.inl ⟨by rfl, by intro w hSw; (try dsimp only at hSw); go_simp⟩) (by assumption) ?_
  try simp only [Act.put, List.setIfInBounds_toArray, List.set_cons_zero, List.set_cons_succ]
  refine wpAnyH_take (i := 5) (oi := { dst := some 66, op := Op.fieldAddr 101 (Operand.tmp 9) 1, type := 0, pos := "parcel.go:158", after := #[], guard := none }) (v := .pointer (some ⟨xb, 1, none⟩)) rfl (by kernel_rfl) (by kernel_rfl) (by kernel_rfl) (fun _ _ _ h => h) (Or.inl ⟨by rfl, by intro w hSw; (try dsimp only at hSw); go_simp⟩) (by assumption) ?_
  try simp only [Act.put, List.setIfInBounds_toArray, List.set_cons_zero, List.set_cons_succ]
  refine wpAnyH_take (i := 6) (oi := { dst := some 67, op := Op.load 3 (Operand.tmp 66), type := 3, pos := "parcel.go:158", after := #[{ on := 5, ground := Ground.data }], guard := none }) (v := .int .i64 q.cnt) rfl (by kernel_rfl) (by kernel_rfl) (by kernel_rfl) (fun _ _ _ h => h) (Or.inl ⟨by rfl, by intro w hSw; (try dsimp only at hSw); have hcx := hSw.1.c0.2.2.2.2.2.1; go_simp⟩) (by assumption) ?_
  try simp only [Act.put, List.setIfInBounds_toArray, List.set_cons_zero, List.set_cons_succ]
  refine wpAnyH_take (i := 7) (oi := { dst := some 68, op := Op.binOp BinOp.neq 3 (Operand.tmp 65) (Operand.tmp 67) 3, type := 4, pos := "parcel.go:158", after := #[{ on := 4, ground := Ground.data }, { on := 6, ground := Ground.data }], guard := none }) (v := .bool false) rfl (by kernel_rfl) (by kernel_rfl) (by kernel_rfl) (fun _ _ _ h => h) (Or.inl ⟨by rfl, by intro w hSw; (try dsimp only at hSw); go_simp⟩) (by assumption) ?_
  try simp only [Act.put, List.setIfInBounds_toArray, List.set_cons_zero, List.set_cons_succ]
  refine wpAnyH_take (i := 8) (oi := { dst := some 69, op := Op.move (Operand.tmp 68), type := 4, pos := "parcel.go:158", after := #[{ on := 7, ground := Ground.data }], guard := none }) (v := .bool false) rfl (by kernel_rfl) (by kernel_rfl) (by kernel_rfl) (fun _ _ _ h => h) (Or.inl ⟨by rfl, by intro w hSw; (try dsimp only at hSw); go_simp⟩) (by assumption) ?_
  try simp only [Act.put, List.setIfInBounds_toArray, List.set_cons_zero, List.set_cons_succ]
  refine wpAnyH_take (i := 9) (oi := { dst := some 70, op := Op.move (Operand.tmp 11), type := 106, pos := "parcel.go:158", after := #[{ on := 8, ground := Ground.guard }], guard := some (8, false) }) (v := .pointer (some ⟨z.pb, 0, none⟩)) rfl (by kernel_rfl) (by kernel_rfl) (by kernel_rfl) (fun _ _ _ h => h) (Or.inl ⟨by rfl, by intro w hSw; (try dsimp only at hSw); go_simp⟩) (by assumption) ?_
  try simp only [Act.put, List.setIfInBounds_toArray, List.set_cons_zero, List.set_cons_succ]
  refine wpAnyH_take (i := 10) (oi := { dst := some 71, op := Op.nilCheck (Operand.tmp 70), type := 0, pos := "parcel.go:158", after := #[{ on := 9, ground := Ground.data }, { on := 8, ground := Ground.guard }], guard := some (8, false) }) (v := .pointer (some ⟨z.pb, 0, none⟩)) rfl (by kernel_rfl) (by kernel_rfl) (by kernel_rfl) (fun _ _ _ h => h) (Or.inl ⟨by rfl, by intro w hSw; (try dsimp only at hSw); go_simp⟩) (by assumption) ?_
  try simp only [Act.put, List.setIfInBounds_toArray, List.set_cons_zero, List.set_cons_succ]
  refine wpAnyH_take (i := 11) (oi := { dst := some 72, op := Op.fieldAddr 109 (Operand.tmp 71) 0, type := 0, pos := "parcel.go:158", after := #[{ on := 10, ground := Ground.data }, { on := 8, ground := Ground.guard }], guard := some (8, false) }) (v := .pointer (some ⟨z.pb, 0, none⟩)) rfl (by kernel_rfl) (by kernel_rfl) (by kernel_rfl) (fun _ _ _ h => h) (Or.inl ⟨by rfl, by intro w hSw; (try dsimp only at hSw); go_simp⟩) (by assumption) ?_
  try simp only [Act.put, List.setIfInBounds_toArray, List.set_cons_zero, List.set_cons_succ]
  refine wpAnyH_take (i := 12) (oi := { dst := some 73, op := Op.load 88 (Operand.tmp 72), type := 88, pos := "parcel.go:158", after := #[{ on := 11, ground := Ground.data }, { on := 8, ground := Ground.guard }], guard := some (8, false) }) (v := .agg (bv z.e.sum).toArray) rfl (by kernel_rfl) (by kernel_rfl) (by kernel_rfl) (fun _ _ _ h => h) (yieldsIf_load_mid (by rfl) 88 (.tmp 72) (by rfl) z.pb 0 (by rfl) (bv z.e.sum) _ (fun w h => h.2.range) hu1 rfl hi2) (by assumption) ?_
  try simp only [Act.put, List.setIfInBounds_toArray, List.set_cons_zero, List.set_cons_succ]
  refine wpAnyH_take (i := 13) (oi := { dst := some 74, op := Op.fieldAddr 101 (Operand.tmp 9) 3, type := 0, pos := "parcel.go:158", after := #[{ on := 8, ground := Ground.guard }], guard := some (8, false) }) (v := .pointer (some ⟨xb, 3, none⟩)) rfl (by kernel_rfl) (by kernel_rfl) (by kernel_rfl) (fun _ _ _ h => h) (Or.inl ⟨by rfl, by intro w hSw; (try dsimp only at hSw); go_simp⟩) (by assumption) ?_
  try simp only [Act.put, List.setIfInBounds_toArray, List.set_cons_zero, List.set_cons_succ]
  refine wpAnyH_take (i := 14) (oi := { dst := some 75, op := Op.load 88 (Operand.tmp 74), type := 88, pos := "parcel.go:158", after := #[{ on := 13, ground := Ground.data }, { on := 8, ground := Ground.guard }], guard := some (8, false) }) (v := .agg (bv q.sum).toArray) rfl (by kernel_rfl) (by kernel_rfl) (by kernel_rfl) (fun _ _ _ h => h) (yieldsIf_load_mid (by rfl) 88 (.tmp 74) (by rfl) xb 3 (by rfl) (bv q.sum) _ (fun w h => h.1.x.range) hu1 rfl hi1) (by assumption) ?_
  try simp only [Act.put, List.setIfInBounds_toArray, List.set_cons_zero, List.set_cons_succ]
  refine wpAnyH_take (i := 15) (oi := { dst := some 76, op := Op.binOp BinOp.neq 88 (Operand.tmp 73) (Operand.tmp 75) 88, type := 4, pos := "parcel.go:158", after := #[{ on := 12, ground := Ground.data }, { on := 14, ground := Ground.data }, { on := 8, ground := Ground.guard }], guard := some (8, false) }) (v := .bool true) rfl (by kernel_rfl) (by kernel_rfl) (by kernel_rfl) (fun _ _ _ h => h) (Or.inl ⟨by rfl, by intro w hSw; (try dsimp only at hSw); go_simp⟩) (by assumption) ?_
  try simp only [Act.put, List.setIfInBounds_toArray, List.set_cons_zero, List.set_cons_succ]
  refine wpAnyH_take (i := 16) (oi := { dst := some 77, op := Op.pick (Operand.tmp 69) (Operand.const (Value.bool true)) (Operand.tmp 76), type := 4, pos := "parcel.go:158", after := #[{ on := 8, ground := Ground.data }, { on := 15, ground := Ground.data }], guard := none }) (v := .bool true) rfl (by kernel_rfl) (by kernel_rfl) (by kernel_rfl) (fun _ _ _ h => h) (Or.inl ⟨by rfl, by intro w hSw; (try dsimp only at hSw); go_simp⟩) (by assumption) ?_
  try simp only [Act.put, List.setIfInBounds_toArray, List.set_cons_zero, List.set_cons_succ]
  refine wpAnyH_take (i := 17) (oi := { dst := some 60, op := Op.assign (Operand.tmp 77), type := 4, pos := "parcel.go:158", after := #[{ on := 16, ground := Ground.data }, { on := 8, ground := Ground.chain }], guard := none }) (v := .bool true) rfl (by kernel_rfl) (by kernel_rfl) (by kernel_rfl) (fun _ _ _ h => h) (Or.inl ⟨by rfl, by intro w hSw; (try dsimp only at hSw); go_simp⟩) (by assumption) ?_
  try simp only [Act.put, List.setIfInBounds_toArray, List.set_cons_zero, List.set_cons_succ]
  refine wpAnyH_done (by kernel_rfl) ?_ _
  refine NoPanic.normal ?_
  have HAD6 := Lib.hid hHeld.1
  have HPC6 := Lib.hid hHeld.2
  clear hHeld hne hcb
  go_wp2_with fail
  go_ret3
  exact ⟨rfl, HAD6.out.k⟩
set_option maxRecDepth 100000 in
set_option maxHeartbeats 2000000 in
theorem add_twice (mk : List UInt8 → List UInt8) (w : World) (G : Nat → Prop) (t : Nat) (most : Int) (B : Nat) (Z : List Zt) (p : List UInt8) (v : Value) (q : Prt) (h : AH mk w G t most B Z p v q) (z : Zt) (hz : findZ Z (p, q.id) = some z) (hcnt : (z.e.parts.length : Int) = q.cnt) (hsum : z.e.sum = q.sum) (c : List UInt8) (hix : z.e.parts[q.idx.toNat]? = some (some c)) : Calls Tryd.prog 26 #[.pointer (some ⟨t, 0, none⟩), .string (strOf p), v] w fun e w' => e = .returned (.tuple #[.int .u32 0, .bool false, .int .i64 151]) ∧ Kp [] w w' := by
  have HCNT := Lib.hid hcnt
  clear hcnt
  have HSUM := Lib.hid hsum
  clear hsum
  have HIX := Lib.hid hix
  clear hix
  have HZF := Lib.hid hz
  have HZM := Lib.hid (findZ_mem hz).1
  have HN := Lib.hid h.hn
  have HRD := Lib.hid h.hr
  have HZ0 := Lib.hid h.z
  have HQ := Lib.hid h.qo
  have HKO := Lib.hid h.ko
  have HTB := Lib.hid h.mc
  have HML := Lib.hid h.ml
  have HGL := Lib.hid h.gl
  have HLK : Hid (∀ W, TRz W G t most B Z → (Instr.lookup 97 (.map (some B)) (.agg #[.string (strOf p), .int .u32 q.id]) false).run Tryd.prog W = .ok (.pointer (some ⟨z.pb, 0, none⟩)) W) := Lib.hid (fun W hW => by have := hW.m.lookup (k := (p, q.id)) h.ko; rw [lookK_Zk, hz] at this; exact this)
  clear h
  go_enter Tryd.func26, Tryd.ntmps26
  go_wp2_with (first
    | (go_at_call 49; go_must (refine HN.out.mono ?_; rintro e w1 ⟨rfl, rfl⟩))
    | (go_at_call 50; go_must (refine HRD.out.mono ?_; rintro e w1 ⟨a1, c1, rfl, ho1, hk1⟩; have HO1 := Lib.hid ho1; have HK1 := Lib.hid hk1; clear ho1 hk1))
    | ((with_reducible show wpList _ _ _ ({ dst := none, op := Op.store _ (.tmp 9) (.tmp 20), type := _, pos := _, after := _, guard := _ } :: _) _ _); go_must ((with_reducible refine wpList_store_row ?b1 101 (.tmp 9) (.tmp 20) ?b2 w1.heap.size (pcl q.id q.cnt q.idx q.sum (.slice a1 q.cont.length c1)).toArray ?b3 ?b4 101 (pcl 0 0 0 s8 (.slice none 0 0)).toArray ?b5 ?b6 ?b7 ?b8 ?b9); (case b1 => rfl); (case b2 => rfl); (case b3 => rfl); (case b4 => rfl); (case b5 => exact heap_alloc_new w1 _); (case b6 => (rw [List.size_toArray, pcl_len _ _ _ _ _ HQ.out.s]; kernel_rfl)); (case b7 => (rw [List.size_toArray, List.size_toArray, pcl_len _ _ _ _ _ HQ.out.s]; rfl)); (case b8 => exact all_oneCell_toArray (pcl_one _ _ _ _ a1 (_, _))); change wpList _ _ _ _ _ ((w1.alloc (.cells (pcl 0 0 0 s8 (.slice none 0 0)).toArray 101)).setRow w1.heap.size (pcl q.id q.cnt q.idx q.sum (.slice a1 q.cont.length c1)).toArray); have HAD := Lib.hid (ad_start (p := p) (O := (pcl 0 0 0 s8 (.slice none 0 0)).toArray) HZ0.out HQ.out HK1.out HO1.out (W2 := (w1.alloc (.cells (pcl 0 0 0 s8 (.slice none 0 0)).toArray 101)).setRow w1.heap.size (pcl q.id q.cnt q.idx q.sum (.slice a1 q.cont.length c1)).toArray) rfl); have c0 : ((w1.alloc (.cells (pcl 0 0 0 s8 (.slice none 0 0)).toArray 101)).setRow w1.heap.size (pcl q.id q.cnt q.idx q.sum (.slice a1 q.cont.length c1)).toArray).cell? ⟨w1.heap.size, 0, none⟩ = some (.int .u32 q.id) := (by rw [cell_of_row _ w1.heap.size 0 _ _ _ (setRow_heap _ _ _ _ _ _ (heap_alloc_new w1 _))]; rfl); generalize (w1.alloc (.cells (pcl 0 0 0 s8 (.slice none 0 0)).toArray 101)).setRow w1.heap.size (pcl q.id q.cnt q.idx q.sum (.slice a1 q.cont.length c1)).toArray = W2 at *))
    | fail)
  generalize w1.heap.size = xb at *
  generalize W2.heap.size = nb at *
  generalize W2.alloc (.cells #[.string (strOf p), .int .u32 q.id] 105) = W3 at *
  clear c0 HO1 HK1
  obtain ⟨ct0, ct1, cn0, cn1, cx0, cx1, cx2⟩ := HAD.out.c0
  have hlk : ∀ n, (Instr.lookup 97 (.map (some B)) (.agg #[.string (strOf p), .int .u32 q.id]) false).run Tryd.prog (W3.drewN n) = .ok (.pointer (some ⟨z.pb, 0, none⟩)) (W3.drewN n) := fun n => HLK.out _ (HAD.out.z.kp0 ((Kp.refl [] W3).drewN n))
  go_quiet (fail)
  have HAD4 := Lib.hid (HAD.out.kp ((Kp.refl [] W3).drewN nq))
  clear hlk HAD HLK ct0 ct1 cn0 cn1 cx0 cx1 cx2
  generalize W3.drewN nq = W4 at *
  clear hz
  obtain ⟨ct0, ct1, cn0, cn1, cx0, cx1, cx2⟩ := HAD4.out.c0
  go_wp2_with fail
  go_quiet (fail)
  have HAD5 := Lib.hid (HAD4.out.kp ((Kp.refl [] W4).drewN nq))
  clear HAD4 ct0 ct1 cn0 cn1 cx0 cx1 cx2
  generalize W4.drewN nq = W5 at *
  go_wp2_with fail
  have HPC5 := Lib.hid (HAD5.out.z.p z HZM.out)
  have hcb : ((z.e.parts.length : Int) != q.cnt) = false := by rw [HCNT.out]; simp
  have hne : ∀ W, (binOp .neq 88 (.agg (bv z.e.sum).toArray) (.agg (bv q.sum).toArray)).run Tryd.prog W = .ok (.bool false) W := fun W => by rw [HSUM.out]; exact mark_same q.sum HQ.out.s W
  have hu1 := Tryd.underlying88
  have hi1 : (Tryd.prog.info? 88).map (·.size) = some (bv q.sum).length := by rw [bv_length, HQ.out.s]; kernel_rfl
  have hi2 : (Tryd.prog.info? 88).map (·.size) = some (bv z.e.sum).length := by rw [bv_length, HPC5.out.hs]; kernel_rfl
  refine wp_region_noPanic ?_
  refine wp_region_held_drew (S := fun w' => AD w w' G t most B Z xb nb q (.slice a1 q.cont.length c1) p ∧ PcAt w' G z.pb z.ab z.e.sum z.e.parts) (by kernel_rfl) (⟨HAD5.out.drew, HPC5.out.kp0 ((Kp.refl [] W5).drew)⟩) (fun hHeld => ?_)
  clear HAD5 HPC5
  generalize W5.drew = W6 at *
  refine wpAnyH_take (i := 0) (oi := { dst := some 61, op := Op.move (Operand.tmp 11), type := 106, pos := "parcel.go:158", after := #[], guard := none }) (v := .pointer (some ⟨z.pb, 0, none⟩)) rfl (by kernel_rfl) (by kernel_rfl) (by kernel_rfl) (fun _ _ _ h => h) (Or.inl ⟨by rfl, by intro w hSw; (try dsimp only at hSw); go_simp⟩) (by assumption) ?_
  try simp only [Act.put, List.setIfInBounds_toArray, List.set_cons_zero, List.set_cons_succ]
  refine wpAnyH_take (i := 1) (oi := { dst := some 62, op := Op.nilCheck (Operand.tmp 61), type := 0, pos := "parcel.go:158", after := #[{ on := 0, ground := Ground.data }], guard := none }) (v := .pointer (some ⟨z.pb, 0, none⟩)) rfl (by kernel_rfl) (by kernel_rfl) (by kernel_rfl) (fun _ _ _ h => h) (Or.inl ⟨by rfl, by intro w hSw; (try dsimp only at hSw); go_simp⟩) (by assumption) ?_
  try simp only [Act.put, List.setIfInBounds_toArray, List.set_cons_zero, List.set_cons_succ]
  refine wpAnyH_take (i := 2) (oi := { dst := some 63, op := Op.fieldAddr 109 (Operand.tmp 62) 1, type := 0, pos := "parcel.go:158", after := #[{ on := 1, ground := Ground.data }], guard := none }) (v := .pointer (some ⟨z.pb, 8, none⟩)) rfl (by kernel_rfl) (by kernel_rfl) (by kernel_rfl) (fun _ _ _ h => h) (Or.inl ⟨by rfl, by intro w hSw; (try dsimp only at hSw); go_simp⟩) (by assumption) ?_
  try simp only [Act.put, List.setIfInBounds_toArray, List.set_cons_zero, List.set_cons_succ]
  refine wpAnyH_take (i := 3) (oi := { dst := some 64, op := Op.load 107 (Operand.tmp 63), type := 107, pos := "parcel.go:158", after := #[{ on := 2, ground := Ground.data }], guard := none }) (v := .slice (some ⟨z.ab, 0, none⟩) z.e.parts.length z.e.parts.length) rfl (by kernel_rfl) (by kernel_rfl) (by kernel_rfl) (fun _ _ _ h => h) (Or.inl ⟨by rfl, by intro w hSw; (try dsimp only at hSw); have hcx := hSw.2.c8; go_simp⟩) (by assumption) ?_
  try simp only [Act.put, List.setIfInBounds_toArray, List.set_cons_zero, List.set_cons_succ]
  refine wpAnyH_take (i := 4) (oi := { dst := some 65, op := Op.call { callee := Callee.builtin Builtin.len, args := #[Operand.tmp 64], argTypes := #[107] }, type := 3, pos := "parcel.go:158", after := #[{ on := 3, ground := Ground.data }], guard := none }) (v := .int .i64 (z.e.parts.length : Int)) rfl (by kernel_rfl) (by kernel_rfl) (by kernel_rfl) (fun _ _ _ h => h) (Or.inl ⟨by rfl, by intro w hSw; (try dsimp only at hSw); go_simp⟩) (by assumption) ?_
  try simp only [Act.put, List.setIfInBounds_toArray, List.set_cons_zero, List.set_cons_succ]
  refine wpAnyH_take (i := 5) (oi := { dst := some 66, op := Op.fieldAddr 101 (Operand.tmp 9) 1, type := 0, pos := "parcel.go:158", after := #[], guard := none }) (v := .pointer (some ⟨xb, 1, none⟩)) rfl (by kernel_rfl) (by kernel_rfl) (by kernel_rfl) (fun _ _ _ h => h) (Or.inl ⟨by rfl, by intro w hSw; (try dsimp only at hSw); go_simp⟩) (by assumption) ?_
  try simp only [Act.put, List.setIfInBounds_toArray, List.set_cons_zero, List.set_cons_succ]
  refine wpAnyH_take (i := 6) (oi := { dst := some 67, op := Op.load 3 (Operand.tmp 66), type := 3, pos := "parcel.go:158", after := #[{ on := 5, ground := Ground.data }], guard := none }) (v := .int .i64 q.cnt) rfl (by kernel_rfl) (by kernel_rfl) (by kernel_rfl) (fun _ _ _ h => h) (Or.inl ⟨by rfl, by intro w hSw; (try dsimp only at hSw); have hcx := hSw.1.c0.2.2.2.2.2.1; go_simp⟩) (by assumption) ?_
  try simp only [Act.put, List.setIfInBounds_toArray, List.set_cons_zero, List.set_cons_succ]
  refine wpAnyH_take (i := 7) (oi := { dst := some 68, op := Op.binOp BinOp.neq 3 (Operand.tmp 65) (Operand.tmp 67) 3, type := 4, pos := "parcel.go:158", after := #[{ on := 4, ground := Ground.data }, { on := 6, ground := Ground.data }], guard := none }) (v := .bool false) rfl (by kernel_rfl) (by kernel_rfl) (by kernel_rfl) (fun _ _ _ h => h) (Or.inl ⟨by rfl, by intro w hSw; (try dsimp only at hSw); go_simp⟩) (by assumption) ?_
  try simp only [Act.put, List.setIfInBounds_toArray, List.set_cons_zero, List.set_cons_succ]
  refine wpAnyH_take (i := 8) (oi := { dst := some 69, op := Op.move (Operand.tmp 68), type := 4, pos := "parcel.go:158", after := #[{ on := 7, ground := Ground.data }], guard := none }) (v := .bool false) rfl (by kernel_rfl) (by kernel_rfl) (by kernel_rfl) (fun _ _ _ h => h) (Or.inl ⟨by rfl, by intro w hSw; (try dsimp only at hSw); go_simp⟩) (by assumption) ?_
  try simp only [Act.put, List.setIfInBounds_toArray, List.set_cons_zero, List.set_cons_succ]
  refine wpAnyH_take (i := 9) (oi := { dst := some 70, op := Op.move (Operand.tmp 11), type := 106, pos := "parcel.go:158", after := #[{ on := 8, ground := Ground.guard }], guard := some (8, false) }) (v := .pointer (some ⟨z.pb, 0, none⟩)) rfl (by kernel_rfl) (by kernel_rfl) (by kernel_rfl) (fun _ _ _ h => h) (Or.inl ⟨by rfl, by intro w hSw; (try dsimp only at hSw); go_simp⟩) (by assumption) ?_
  try simp only [Act.put, List.setIfInBounds_toArray, List.set_cons_zero, List.set_cons_succ]
  refine wpAnyH_take (i := 10) (oi := { dst := some 71, op := Op.nilCheck (Operand.tmp 70), type := 0, pos := "parcel.go:158", after := #[{ on := 9, ground := Ground.data }, { on := 8, ground := Ground.guard }], guard := some (8, false) }) (v := .pointer (some ⟨z.pb, 0, none⟩)) rfl (by kernel_rfl) (by kernel_rfl) (by kernel_rfl) (fun _ _ _ h => h) (Or.inl ⟨by rfl, by intro w hSw; (try dsimp only at hSw); go_simp⟩) (by assumption) ?_
  try simp only [Act.put, List.setIfInBounds_toArray, List.set_cons_zero, List.set_cons_succ]
  refine wpAnyH_take (i := 11) (oi := { dst := some 72, op := Op.fieldAddr 109 (Operand.tmp 71) 0, type := 0, pos := "parcel.go:158", after := #[{ on := 10, ground := Ground.data }, { on := 8, ground := Ground.guard }], guard := some (8, false) }) (v := .pointer (some ⟨z.pb, 0, none⟩)) rfl (by kernel_rfl) (by kernel_rfl) (by kernel_rfl) (fun _ _ _ h => h) (Or.inl ⟨by rfl, by intro w hSw; (try dsimp only at hSw); go_simp⟩) (by assumption) ?_
  try simp only [Act.put, List.setIfInBounds_toArray, List.set_cons_zero, List.set_cons_succ]
  refine wpAnyH_take (i := 12) (oi := { dst := some 73, op := Op.load 88 (Operand.tmp 72), type := 88, pos := "parcel.go:158", after := #[{ on := 11, ground := Ground.data }, { on := 8, ground := Ground.guard }], guard := some (8, false) }) (v := .agg (bv z.e.sum).toArray) rfl (by kernel_rfl) (by kernel_rfl) (by kernel_rfl) (fun _ _ _ h => h) (yieldsIf_load_mid (by rfl) 88 (.tmp 72) (by rfl) z.pb 0 (by rfl) (bv z.e.sum) _ (fun w h => h.2.range) hu1 rfl hi2) (by assumption) ?_
  try simp only [Act.put, List.setIfInBounds_toArray, List.set_cons_zero, List.set_cons_succ]
  refine wpAnyH_take (i := 13) (oi := { dst := some 74, op := Op.fieldAddr 101 (Operand.tmp 9) 3, type := 0, pos := "parcel.go:158", after := #[{ on := 8, ground := Ground.guard }], guard := some (8, false) }) (v := .pointer (some ⟨xb, 3, none⟩)) rfl (by kernel_rfl) (by kernel_rfl) (by kernel_rfl) (fun _ _ _ h => h) (Or.inl ⟨by rfl, by intro w hSw; (try dsimp only at hSw); go_simp⟩) (by assumption) ?_
  try simp only [Act.put, List.setIfInBounds_toArray, List.set_cons_zero, List.set_cons_succ]
  refine wpAnyH_take (i := 14) (oi := { dst := some 75, op := Op.load 88 (Operand.tmp 74), type := 88, pos := "parcel.go:158", after := #[{ on := 13, ground := Ground.data }, { on := 8, ground := Ground.guard }], guard := some (8, false) }) (v := .agg (bv q.sum).toArray) rfl (by kernel_rfl) (by kernel_rfl) (by kernel_rfl) (fun _ _ _ h => h) (yieldsIf_load_mid (by rfl) 88 (.tmp 74) (by rfl) xb 3 (by rfl) (bv q.sum) _ (fun w h => h.1.x.range) hu1 rfl hi1) (by assumption) ?_
  try simp only [Act.put, List.setIfInBounds_toArray, List.set_cons_zero, List.set_cons_succ]
  refine wpAnyH_take (i := 15) (oi := { dst := some 76, op := Op.binOp BinOp.neq 88 (Operand.tmp 73) (Operand.tmp 75) 88, type := 4, pos := "parcel.go:158", after := #[{ on := 12, ground := Ground.data }, { on := 14, ground := Ground.data }, { on := 8, ground := Ground.guard }], guard := some (8, false) }) (v := .bool false) rfl (by kernel_rfl) (by kernel_rfl) (by kernel_rfl) (fun _ _ _ h => h) (Or.inl ⟨by rfl, by intro w hSw; (try dsimp only at hSw); go_simp⟩) (by assumption) ?_
  try simp only [Act.put, List.setIfInBounds_toArray, List.set_cons_zero, List.set_cons_succ]
  refine wpAnyH_take (i := 16) (oi := { dst := some 77, op := Op.pick (Operand.tmp 69) (Operand.const (Value.bool true)) (Operand.tmp 76), type := 4, pos := "parcel.go:158", after := #[{ on := 8, ground := Ground.data }, { on := 15, ground := Ground.data }], guard := none }) (v := .bool false) rfl (by kernel_rfl) (by kernel_rfl) (by kernel_rfl) (fun _ _ _ h => h) (Or.inl ⟨by rfl, by intro w hSw; (try dsimp only at hSw); go_simp⟩) (by assumption) ?_
  try simp only [Act.put, List.setIfInBounds_toArray, List.set_cons_zero, List.set_cons_succ]
  refine wpAnyH_take (i := 17) (oi := { dst := some 60, op := Op.assign (Operand.tmp 77), type := 4, pos := "parcel.go:158", after := #[{ on := 16, ground := Ground.data }, { on := 8, ground := Ground.chain }], guard := none }) (v := .bool false) rfl (by kernel_rfl) (by kernel_rfl) (by kernel_rfl) (fun _ _ _ h => h) (Or.inl ⟨by rfl, by intro w hSw; (try dsimp only at hSw); go_simp⟩) (by assumption) ?_
  try simp only [Act.put, List.setIfInBounds_toArray, List.set_cons_zero, List.set_cons_succ]
  refine wpAnyH_done (by kernel_rfl) ?_ _
  refine NoPanic.normal ?_
  have HAD6 := Lib.hid hHeld.1
  have HPC6 := Lib.hid hHeld.2
  clear hHeld hne hcb
  obtain ⟨ct0, ct1, cn0, cn1, cx0, cx1, cx2⟩ := HAD6.out.c0
  have c8' := HPC6.out.c8
  have hi0 := HQ.out.i0
  have HIL : Hid (q.idx < (z.e.parts.length : Int)) := Lib.hid (by rw [HCNT.out]; exact HQ.out.i1)
  have hil := HIL.out
  obtain ⟨xo, hcn⟩ := HPC6.out.full HIX.out
  go_wp2_with fail
  go_quiet (fail)
  go_wp2_with fail
  go_ret3
  exact ⟨rfl, HAD6.out.k.drewN nq⟩
set_option maxRecDepth 100000 in
set_option maxHeartbeats 2000000 in
theorem add_old_part (mk : List UInt8 → List UInt8) (w : World) (G : Nat → Prop) (t : Nat) (most : Int) (B : Nat) (Z : List Zt) (p : List UInt8) (v : Value) (q : Prt) (h : AH mk w G t most B Z p v q) (z : Zt) (hz : findZ Z (p, q.id) = some z) (hcnt : (z.e.parts.length : Int) = q.cnt) (hsum : z.e.sum = q.sum) (hix : z.e.parts[q.idx.toNat]? = some none) (hw : (missL z.e.parts).length ≠ 1) : Calls Tryd.prog 26 #[.pointer (some ⟨t, 0, none⟩), .string (strOf p), v] w fun e w' => e = .returned (.tuple #[.int .u32 q.id, .bool false, .int .i64 0]) ∧ TRz w' (Gn G w z.ab) t most B (Zset Z (p, q.id) q.idx.toNat q.cont) ∧ Kp [z.ab, B] w w' := by
  have HW := Lib.hid hw
  clear hw
  have HCNT := Lib.hid hcnt
  clear hcnt
  have HSUM := Lib.hid hsum
  clear hsum
  have HIX := Lib.hid hix
  clear hix
  have HZF := Lib.hid hz
  have HZM := Lib.hid (findZ_mem hz).1
  have HN := Lib.hid h.hn
  have HRD := Lib.hid h.hr
  have HZ0 := Lib.hid h.z
  have HQ := Lib.hid h.qo
  have HKO := Lib.hid h.ko
  have HTB := Lib.hid h.mc
  have HML := Lib.hid h.ml
  have HGL := Lib.hid h.gl
  have HLK : Hid (∀ W, TRz W G t most B Z → (Instr.lookup 97 (.map (some B)) (.agg #[.string (strOf p), .int .u32 q.id]) false).run Tryd.prog W = .ok (.pointer (some ⟨z.pb, 0, none⟩)) W) := Lib.hid (fun W hW => by have := hW.m.lookup (k := (p, q.id)) h.ko; rw [lookK_Zk, hz] at this; exact this)
  clear h
  go_enter Tryd.func26, Tryd.ntmps26
  go_wp2_with (first
    | (go_at_call 49; go_must (refine HN.out.mono ?_; rintro e w1 ⟨rfl, rfl⟩))
    | (go_at_call 50; go_must (refine HRD.out.mono ?_; rintro e w1 ⟨a1, c1, rfl, ho1, hk1⟩; have HO1 := Lib.hid ho1; have HK1 := Lib.hid hk1; clear ho1 hk1))
    | ((with_reducible show wpList _ _ _ ({ dst := none, op := Op.store _ (.tmp 9) (.tmp 20), type := _, pos := _, after := _, guard := _ } :: _) _ _); go_must ((with_reducible refine wpList_store_row ?b1 101 (.tmp 9) (.tmp 20) ?b2 w1.heap.size (pcl q.id q.cnt q.idx q.sum (.slice a1 q.cont.length c1)).toArray ?b3 ?b4 101 (pcl 0 0 0 s8 (.slice none 0 0)).toArray ?b5 ?b6 ?b7 ?b8 ?b9); (case b1 => rfl); (case b2 => rfl); (case b3 => rfl); (case b4 => rfl); (case b5 => exact heap_alloc_new w1 _); (case b6 => (rw [List.size_toArray, pcl_len _ _ _ _ _ HQ.out.s]; kernel_rfl)); (case b7 => (rw [List.size_toArray, List.size_toArray, pcl_len _ _ _ _ _ HQ.out.s]; rfl)); (case b8 => exact all_oneCell_toArray (pcl_one _ _ _ _ a1 (_, _))); change wpList _ _ _ _ _ ((w1.alloc (.cells (pcl 0 0 0 s8 (.slice none 0 0)).toArray 101)).setRow w1.heap.size (pcl q.id q.cnt q.idx q.sum (.slice a1 q.cont.length c1)).toArray); have HAD := Lib.hid (ad_start (p := p) (O := (pcl 0 0 0 s8 (.slice none 0 0)).toArray) HZ0.out HQ.out HK1.out HO1.out (W2 := (w1.alloc (.cells (pcl 0 0 0 s8 (.slice none 0 0)).toArray 101)).setRow w1.heap.size (pcl q.id q.cnt q.idx q.sum (.slice a1 q.cont.length c1)).toArray) rfl); have c0 : ((w1.alloc (.cells (pcl 0 0 0 s8 (.slice none 0 0)).toArray 101)).setRow w1.heap.size (pcl q.id q.cnt q.idx q.sum (.slice a1 q.cont.length c1)).toArray).cell? ⟨w1.heap.size, 0, none⟩ = some (.int .u32 q.id) := (by rw [cell_of_row _ w1.heap.size 0 _ _ _ (setRow_heap _ _ _ _ _ _ (heap_alloc_new w1 _))]; rfl); generalize (w1.alloc (.cells (pcl 0 0 0 s8 (.slice none 0 0)).toArray 101)).setRow w1.heap.size (pcl q.id q.cnt q.idx q.sum (.slice a1 q.cont.length c1)).toArray = W2 at *))
    | fail)
  generalize w1.heap.size = xb at *
  generalize W2.heap.size = nb at *
  generalize W2.alloc (.cells #[.string (strOf p), .int .u32 q.id] 105) = W3 at *
  clear c0 HO1 HK1
  obtain ⟨ct0, ct1, cn0, cn1, cx0, cx1, cx2⟩ := HAD.out.c0
  have hlk : ∀ n, (Instr.lookup 97 (.map (some B)) (.agg #[.string (strOf p), .int .u32 q.id]) false).run Tryd.prog (W3.drewN n) = .ok (.pointer (some ⟨z.pb, 0, none⟩)) (W3.drewN n) := fun n => HLK.out _ (HAD.out.z.kp0 ((Kp.refl [] W3).drewN n))
  go_quiet (fail)
  have HAD4 := Lib.hid (HAD.out.kp ((Kp.refl [] W3).drewN nq))
  clear hlk HAD HLK ct0 ct1 cn0 cn1 cx0 cx1 cx2
  generalize W3.drewN nq = W4 at *
  clear hz
  obtain ⟨ct0, ct1, cn0, cn1, cx0, cx1, cx2⟩ := HAD4.out.c0
  go_wp2_with fail
  go_quiet (fail)
  have HAD5 := Lib.hid (HAD4.out.kp ((Kp.refl [] W4).drewN nq))
  clear HAD4 ct0 ct1 cn0 cn1 cx0 cx1 cx2
  generalize W4.drewN nq = W5 at *
  go_wp2_with fail
  have HPC5 := Lib.hid (HAD5.out.z.p z HZM.out)
  have hcb : ((z.e.parts.length : Int) != q.cnt) = false := by rw [HCNT.out]; simp
  have hne : ∀ W, (binOp .neq 88 (.agg (bv z.e.sum).toArray) (.agg (bv q.sum).toArray)).run Tryd.prog W = .ok (.bool false) W := fun W => by rw [HSUM.out]; exact mark_same q.sum HQ.out.s W
  have hu1 := Tryd.underlying88
  have hi1 : (Tryd.prog.info? 88).map (·.size) = some (bv q.sum).length := by rw [bv_length, HQ.out.s]; kernel_rfl
  have hi2 : (Tryd.prog.info? 88).map (·.size) = some (bv z.e.sum).length := by rw [bv_length, HPC5.out.hs]; kernel_rfl
  refine wp_region_noPanic ?_
  refine wp_region_held_drew (S := fun w' => AD w w' G t most B Z xb nb q (.slice a1 q.cont.length c1) p ∧ PcAt w' G z.pb z.ab z.e.sum z.e.parts) (by kernel_rfl) (⟨HAD5.out.drew, HPC5.out.kp0 ((Kp.refl [] W5).drew)⟩) (fun hHeld => ?_)
  clear HAD5 HPC5
  generalize W5.drew = W6 at *
  refine wpAnyH_take (i := 0) (oi := { dst := some 61, op := Op.move (Operand.tmp 11), type := 106, pos := "parcel.go:158", after := #[], guard := none }) (v := .pointer (some ⟨z.pb, 0, none⟩)) rfl (by kernel_rfl) (by kernel_rfl) (by kernel_rfl) (fun _ _ _ h => h) (Or.inl ⟨by rfl, by intro w hSw; (try dsimp only at hSw); go_simp⟩) (by assumption) ?_
  try simp only [Act.put, List.setIfInBounds_toArray, List.set_cons_zero, List.set_cons_succ]
  refine wpAnyH_take (i := 1) (oi := { dst := some 62, op := Op.nilCheck (Operand.tmp 61), type := 0, pos := "parcel.go:158", after := #[{ on := 0, ground := Ground.data }], guard := none }) (v := .pointer (some ⟨z.pb, 0, none⟩)) rfl (by kernel_rfl) (by kernel_rfl) (by kernel_rfl) (fun _ _ _ h => h) (Or.inl ⟨by rfl, by intro w hSw; (try dsimp only at hSw); go_simp⟩) (by assumption) ?_
  try simp only [Act.put, List.setIfInBounds_toArray, List.set_cons_zero, List.set_cons_succ]
  refine wpAnyH_take (i := 2) (oi := { dst := some 63, op := Op.fieldAddr 109 (Operand.tmp 62) 1, type := 0, pos := "parcel.go:158", after := #[{ on := 1, ground := Ground.data }], guard := none }) (v := .pointer (some ⟨z.pb, 8, none⟩)) rfl (by kernel_rfl) (by kernel_rfl) (by kernel_rfl) (fun _ _ _ h => h) (Or.inl ⟨by rfl, by intro w hSw; (try dsimp only at hSw); go_simp⟩) (by assumption) ?_
  try simp only [Act.put, List.setIfInBounds_toArray, List.set_cons_zero, List.set_cons_succ]
  refine wpAnyH_take (i := 3) (oi := { dst := some 64, op := Op.load 107 (Operand.tmp 63), type := 107, pos := "parcel.go:158", after := #[{ on := 2, ground := Ground.data }], guard := none }) (v := .slice (some ⟨z.ab, 0, none⟩) z.e.parts.length z.e.parts.length) rfl (by kernel_rfl) (by kernel_rfl) (by kernel_rfl) (fun _ _ _ h => h) (Or.inl ⟨by rfl, by intro w hSw; (try dsimp only at hSw); have hcx := hSw.2.c8; go_simp⟩) (by assumption) ?_
  try simp only [Act.put, List.setIfInBounds_toArray, List.set_cons_zero, List.set_cons_succ]
  refine wpAnyH_take (i := 4) (oi := { dst := some 65, op := Op.call { callee := Callee.builtin Builtin.len, args := #[Operand.tmp 64], argTypes := #[107] }, type := 3, pos := "parcel.go:158", after := #[{ on := 3, ground := Ground.data }], guard := none }) (v := .int .i64 (z.e.parts.length : Int)) rfl (by kernel_rfl) (by kernel_rfl) (by kernel_rfl) (fun _ _ _ h => h) (Or.inl ⟨by rfl, by intro w hSw; (try dsimp only at hSw); go_simp⟩) (by assumption) ?_
  try simp only [Act.put, List.setIfInBounds_toArray, List.set_cons_zero, List.set_cons_succ]
  refine wpAnyH_take (i := 5) (oi := { dst := some 66, op := Op.fieldAddr 101 (Operand.tmp 9) 1, type := 0, pos := "parcel.go:158", after := #[], guard := none }) (v := .pointer (some ⟨xb, 1, none⟩)) rfl (by kernel_rfl) (by kernel_rfl) (by kernel_rfl) (fun _ _ _ h => h) (Or.inl ⟨by rfl, by intro w hSw; (try dsimp only at hSw); go_simp⟩) (by assumption) ?_
  try simp only [Act.put, List.setIfInBounds_toArray, List.set_cons_zero, List.set_cons_succ]
  refine wpAnyH_take (i := 6) (oi := { dst := some 67, op := Op.load 3 (Operand.tmp 66), type := 3, pos := "parcel.go:158", after := #[{ on := 5, ground := Ground.data }], guard := none }) (v := .int .i64 q.cnt) rfl (by kernel_rfl) (by kernel_rfl) (by kernel_rfl) (fun _ _ _ h => h) (Or.inl ⟨by rfl, by intro w hSw; (try dsimp only at hSw); have hcx := hSw.1.c0.2.2.2.2.2.1; go_simp⟩) (by assumption) ?_
  try simp only [Act.put, List.setIfInBounds_toArray, List.set_cons_zero, List.set_cons_succ]
  refine wpAnyH_take (i := 7) (oi := { dst := some 68, op := Op.binOp BinOp.neq 3 (Operand.tmp 65) (Operand.tmp 67) 3, type := 4, pos := "parcel.go:158", after := #[{ on := 4, ground := Ground.data }, { on := 6, ground := Ground.data }], guard := none }) (v := .bool false) rfl (by kernel_rfl) (by kernel_rfl) (by kernel_rfl) (fun _ _ _ h => h) (Or.inl ⟨by rfl, by intro w hSw; (try dsimp only at hSw); go_simp⟩) (by assumption) ?_
  try simp only [Act.put, List.setIfInBounds_toArray, List.set_cons_zero, List.set_cons_succ]
  refine wpAnyH_take (i := 8) (oi := { dst := some 69, op := Op.move (Operand.tmp 68), type := 4, pos := "parcel.go:158", after := #[{ on := 7, ground := Ground.data }], guard := none }) (v := .bool false) rfl (by kernel_rfl) (by kernel_rfl) (by kernel_rfl) (fun _ _ _ h => h) (Or.inl ⟨by rfl, by intro w hSw; (try dsimp only at hSw); go_simp⟩) (by assumption) ?_
  try simp only [Act.put, List.setIfInBounds_toArray, List.set_cons_zero, List.set_cons_succ]
  refine wpAnyH_take (i := 9) (oi := { dst := some 70, op := Op.move (Operand.tmp 11), type := 106, pos := "parcel.go:158", after := #[{ on := 8, ground := Ground.guard }], guard := some (8, false) }) (v := .pointer (some ⟨z.pb, 0, none⟩)) rfl (by kernel_rfl) (by kernel_rfl) (by kernel_rfl) (fun _ _ _ h => h) (Or.inl ⟨by rfl, by intro w hSw; (try dsimp only at hSw); go_simp⟩) (by assumption) ?_
  try simp only [Act.put, List.setIfInBounds_toArray, List.set_cons_zero, List.set_cons_succ]
  refine wpAnyH_take (i := 10) (oi := { dst := some 71, op := Op.nilCheck (Operand.tmp 70), type := 0, pos := "parcel.go:158", after := #[{ on := 9, ground := Ground.data }, { on := 8, ground := Ground.guard }], guard := some (8, false) }) (v := .pointer (some ⟨z.pb, 0, none⟩)) rfl (by kernel_rfl) (by kernel_rfl) (by kernel_rfl) (fun _ _ _ h => h) (Or.inl ⟨by rfl, by intro w hSw; (try dsimp only at hSw); go_simp⟩) (by assumption) ?_
  try simp only [Act.put, List.setIfInBounds_toArray, List.set_cons_zero, List.set_cons_succ]
  refine wpAnyH_take (i := 11) (oi := { dst := some 72, op := Op.fieldAddr 109 (Operand.tmp 71) 0, type := 0, pos := "parcel.go:158", after := #[{ on := 10, ground := Ground.data }, { on := 8, ground := Ground.guard }], guard := some (8, false) }) (v := .pointer (some ⟨z.pb, 0, none⟩)) rfl (by kernel_rfl) (by kernel_rfl) (by kernel_rfl) (fun _ _ _ h => h) (Or.inl ⟨by rfl, by intro w hSw; (try dsimp only at hSw); go_simp⟩) (by assumption) ?_
  try simp only [Act.put, List.setIfInBounds_toArray, List.set_cons_zero, List.set_cons_succ]
  refine wpAnyH_take (i := 12) (oi := { dst := some 73, op := Op.load 88 (Operand.tmp 72), type := 88, pos := "parcel.go:158", after := #[{ on := 11, ground := Ground.data }, { on := 8, ground := Ground.guard }], guard := some (8, false) }) (v := .agg (bv z.e.sum).toArray) rfl (by kernel_rfl) (by kernel_rfl) (by kernel_rfl) (fun _ _ _ h => h) (yieldsIf_load_mid (by rfl) 88 (.tmp 72) (by rfl) z.pb 0 (by rfl) (bv z.e.sum) _ (fun w h => h.2.range) hu1 rfl hi2) (by assumption) ?_
  try simp only [Act.put, List.setIfInBounds_toArray, List.set_cons_zero, List.set_cons_succ]
  refine wpAnyH_take (i := 13) (oi := { dst := some 74, op := Op.fieldAddr 101 (Operand.tmp 9) 3, type := 0, pos := "parcel.go:158", after := #[{ on := 8, ground := Ground.guard }], guard := some (8, false) }) (v := .pointer (some ⟨xb, 3, none⟩)) rfl (by kernel_rfl) (by kernel_rfl) (by kernel_rfl) (fun _ _ _ h => h) (Or.inl ⟨by rfl, by intro w hSw; (try dsimp only at hSw); go_simp⟩) (by assumption) ?_
  try simp only [Act.put, List.setIfInBounds_toArray, List.set_cons_zero, List.set_cons_succ]
  refine wpAnyH_take (i := 14) (oi := { dst := some 75, op := Op.load 88 (Operand.tmp 74), type := 88, pos := "parcel.go:158", after := #[{ on := 13, ground := Ground.data }, { on := 8, ground := Ground.guard }], guard := some (8, false) }) (v := .agg (bv q.sum).toArray) rfl (by kernel_rfl) (by kernel_rfl) (by kernel_rfl) (fun _ _ _ h => h) (yieldsIf_load_mid (by rfl) 88 (.tmp 74) (by rfl) xb 3 (by rfl) (bv q.sum) _ (fun w h => h.1.x.range) hu1 rfl hi1) (by assumption) ?_
  try simp only [Act.put, List.setIfInBounds_toArray, List.set_cons_zero, List.set_cons_succ]
  refine wpAnyH_take (i := 15) (oi := { dst := some 76, op := Op.binOp BinOp.neq 88 (Operand.tmp 73) (Operand.tmp 75) 88, type := 4, pos := "parcel.go:158", after := #[{ on := 12, ground := Ground.data }, { on := 14, ground := Ground.data }, { on := 8, ground := Ground.guard }], guard := some (8, false) }) (v := .bool false) rfl (by kernel_rfl) (by kernel_rfl) (by kernel_rfl) (fun _ _ _ h => h) (Or.inl ⟨by rfl, by intro w hSw; (try dsimp only at hSw); go_simp⟩) (by assumption) ?_
  try simp only [Act.put, List.setIfInBounds_toArray, List.set_cons_zero, List.set_cons_succ]
  refine wpAnyH_take (i := 16) (oi := { dst := some 77, op := Op.pick (Operand.tmp 69) (Operand.const (Value.bool true)) (Operand.tmp 76), type := 4, pos := "parcel.go:158", after := #[{ on := 8, ground := Ground.data }, { on := 15, ground := Ground.data }], guard := none }) (v := .bool false) rfl (by kernel_rfl) (by kernel_rfl) (by kernel_rfl) (fun _ _ _ h => h) (Or.inl ⟨by rfl, by intro w hSw; (try dsimp only at hSw); go_simp⟩) (by assumption) ?_
  try simp only [Act.put, List.setIfInBounds_toArray, List.set_cons_zero, List.set_cons_succ]
  refine wpAnyH_take (i := 17) (oi := { dst := some 60, op := Op.assign (Operand.tmp 77), type := 4, pos := "parcel.go:158", after := #[{ on := 16, ground := Ground.data }, { on := 8, ground := Ground.chain }], guard := none }) (v := .bool false) rfl (by kernel_rfl) (by kernel_rfl) (by kernel_rfl) (fun _ _ _ h => h) (Or.inl ⟨by rfl, by intro w hSw; (try dsimp only at hSw); go_simp⟩) (by assumption) ?_
  try simp only [Act.put, List.setIfInBounds_toArray, List.set_cons_zero, List.set_cons_succ]
  refine wpAnyH_done (by kernel_rfl) ?_ _
  refine NoPanic.normal ?_
  have HAD6 := Lib.hid hHeld.1
  have HPC6 := Lib.hid hHeld.2
  clear hHeld hne hcb
  obtain ⟨ct0, ct1, cn0, cn1, cx0, cx1, cx2⟩ := HAD6.out.c0
  have c8' := HPC6.out.c8
  have hi0 := HQ.out.i0
  have HIL : Hid (q.idx < (z.e.parts.length : Int)) := Lib.hid (by rw [HCNT.out]; exact HQ.out.i1)
  have hil := HIL.out
  have hcn := HPC6.out.hole HIX.out
  go_wp2_with fail
  go_quiet (fail)
  have HAD7 := Lib.hid (HAD6.out.kp ((Kp.refl [] W6).drewN nq))
  have HPC7 := Lib.hid (HPC6.out.kp (G := Gn G w z.ab) ((Kp.refl [] W6).drewN nq) (by simp) (by simp) (fun _ hb => .inl hb))
  clear ct0 ct1 cn0 cn1 cx0 cx1 cx2 c8' hi0 hil hcn HAD6 HPC6
  generalize W6.drewN nq = W7 at *
  have HIXL : Hid (q.idx.toNat < z.e.parts.length) := Lib.hid (List.getElem?_eq_some_iff.1 HIX.out).1
  have HGA : Hid (¬ G z.ab) := Lib.hid (HZ0.out.ga z HZM.out)
  have HAL : Hid (z.ab < w.heap.size) := Lib.hid (HZ0.out.p z HZM.out).lt
  have hmb : (((nv (missL z.e.parts)).length : Int) == 1) = false := by rw [nv_len]; rw [beq_eq_false_iff_ne]; have := HW.out; omega
  have HMI : Hid (Calls Tryd.prog 51 #[.pointer (some ⟨z.pb, 0, none⟩)] W7 fun e w' => ∃ v, e = .returned v ∧ Own w' W7.heap.size 3 v (nv (missL z.e.parts)) ∧ Kp [] W7 w') := Lib.hid (missing_any _ _ _ _ _ _ HPC7.out)
  go_wp2_with (first
    | (go_at_call 51; go_must (refine HMI.out.mono ?_; rintro e w8 ⟨v8, rfl, ho8, hk8⟩; obtain ⟨a8, c8, rfl⟩ := ho8.rd.form; have HAD8 := Lib.hid (HAD7.out.kp hk8); have HPC8 := Lib.hid (HPC7.out.kp0 hk8); clear ho8 hk8))
    | fail)
  clear HAD7 HPC7 HMI
  go_quiet (fail)
  have HAD9 := Lib.hid (HAD8.out.kp ((Kp.refl [] w8).drewN nq))
  have HPC9 := Lib.hid (HPC8.out.kp0 ((Kp.refl [] w8).drewN nq))
  clear HAD8 HPC8 hmb
  generalize w8.drewN nq = W9 at *
  have HAD10 := Lib.hid HAD9.out.drew
  have HPC10 := Lib.hid (HPC9.out.kp0 ((Kp.refl [] W9).drew))
  obtain ⟨ct0, ct1, cn0, cn1, cx0, cx1, cx2⟩ := HAD9.out.c0
  have c8' := HPC9.out.c8
  have hi0 := HQ.out.i0
  have hil : q.idx < (z.e.parts.length : Int) := HIL.out
  have hcn : W9.drew.cell? ⟨z.ab, q.idx.toNat, none⟩ = some (.pointer none) := HPC10.out.hole HIX.out
  have hfz : W9.drew.frozen? ⟨z.ab, q.idx.toNat, none⟩ = false := HPC10.out.free _
  go_wp2_with fail
  go_still_tail 7, (by kernel_rfl)
  change wpList _ _ _ _ _ W9.drew
  clear ct0 ct1 cn0 cn1 cx0 cx1 cx2 c8' hi0 hil
  generalize W9.drew = W10 at *
  have HAE := Lib.hid (ae_of HAD10.out HPC10.out HGA.out HIXL.out (fun b hb => by have h1 := (HAD10.out.lc b hb).1; have h2 := HAL.out; omega) (W' := W10.setCell ⟨z.ab, q.idx.toNat, none⟩ (.pointer (some ⟨xb, 0, none⟩))) rfl)
  go_wp2_with fail
  clear hcn hfz HAD9 HPC9 HAD10 HPC10
  generalize W10.setCell ⟨z.ab, q.idx.toNat, none⟩ (.pointer (some ⟨xb, 0, none⟩)) = W11 at *
  have HAE2 := Lib.hid HAE.out.drew
  obtain ⟨ct1, cn0, cn1⟩ := HAE.out.c0
  go_still_tail 6, (by kernel_rfl)
  change wpList _ _ _ _ _ W11.drew
  clear ct1 cn0 cn1 HAE
  generalize W11.drew = W12 at *
  go_wp2_with (first
    | (at_mapUpdate; (refine wpl_upd (k := (p, q.id)) (b := z.pb) rfl _ _ _ rfl rfl rfl rfl (HAE2.out.m.upd_old HKO.out z.pb (by rw [lookK_Zk, HZF.out]; rfl)) ?_; intro w13 hm13 hk13; have HF13 := Lib.hid (fin_old HZ0.out HZF.out HAE2.out hm13 hk13); have cx0 := HAE2.out.id hk13; clear hm13 hk13))
    | fail)
  go_ret3
  exact ⟨rfl, HF13.out.1, HF13.out.2⟩
set_option maxRecDepth 100000 in
set_option maxHeartbeats 2000000 in
theorem add_old_whole (mk : List UInt8 → List UInt8) (w : World) (G : Nat → Prop) (t : Nat) (most : Int) (B : Nat) (Z : List Zt) (p : List UInt8) (v : Value) (q : Prt) (h : AH mk w G t most B Z p v q) (z : Zt) (hz : findZ Z (p, q.id) = some z) (hcnt : (z.e.parts.length : Int) = q.cnt) (hsum : z.e.sum = q.sum) (hix : z.e.parts[q.idx.toNat]? = some none) (hw : (missL z.e.parts).length = 1) (hs : mk (textL (z.e.parts.set q.idx.toNat (some q.cont))) = z.e.sum) : Calls Tryd.prog 26 #[.pointer (some ⟨t, 0, none⟩), .string (strOf p), v] w fun e w' => e = .returned (.tuple #[.int .u32 q.id, .bool true, .int .i64 0]) ∧ TRz w' (Gn G w z.ab) t most B (Zset Z (p, q.id) q.idx.toNat q.cont) ∧ Kp [z.ab, B] w w' := by
  have HW := Lib.hid hw
  clear hw
  have HS := Lib.hid hs
  clear hs
  have HCNT := Lib.hid hcnt
  clear hcnt
  have HSUM := Lib.hid hsum
  clear hsum
  have HIX := Lib.hid hix
  clear hix
  have HZF := Lib.hid hz
  have HZM := Lib.hid (findZ_mem hz).1
  have HN := Lib.hid h.hn
  have HRD := Lib.hid h.hr
  have HZ0 := Lib.hid h.z
  have HQ := Lib.hid h.qo
  have HKO := Lib.hid h.ko
  have HTB := Lib.hid h.mc
  have HML := Lib.hid h.ml
  have HGL := Lib.hid h.gl
  have HLK : Hid (∀ W, TRz W G t most B Z → (Instr.lookup 97 (.map (some B)) (.agg #[.string (strOf p), .int .u32 q.id]) false).run Tryd.prog W = .ok (.pointer (some ⟨z.pb, 0, none⟩)) W) := Lib.hid (fun W hW => by have := hW.m.lookup (k := (p, q.id)) h.ko; rw [lookK_Zk, hz] at this; exact this)
  clear h
  go_enter Tryd.func26, Tryd.ntmps26
  go_wp2_with (first
    | (go_at_call 49; go_must (refine HN.out.mono ?_; rintro e w1 ⟨rfl, rfl⟩))
    | (go_at_call 50; go_must (refine HRD.out.mono ?_; rintro e w1 ⟨a1, c1, rfl, ho1, hk1⟩; have HO1 := Lib.hid ho1; have HK1 := Lib.hid hk1; clear ho1 hk1))
    | ((with_reducible show wpList _ _ _ ({ dst := none, op := Op.store _ (.tmp 9) (.tmp 20), type := _, pos := _, after := _, guard := _ } :: _) _ _); go_must ((with_reducible refine wpList_store_row ?b1 101 (.tmp 9) (.tmp 20) ?b2 w1.heap.size (pcl q.id q.cnt q.idx q.sum (.slice a1 q.cont.length c1)).toArray ?b3 ?b4 101 (pcl 0 0 0 s8 (.slice none 0 0)).toArray ?b5 ?b6 ?b7 ?b8 ?b9); (case b1 => rfl); (case b2 => rfl); (case b3 => rfl); (case b4 => rfl); (case b5 => exact heap_alloc_new w1 _); (case b6 => (rw [List.size_toArray, pcl_len _ _ _ _ _ HQ.out.s]; kernel_rfl)); (case b7 => (rw [List.size_toArray, List.size_toArray, pcl_len _ _ _ _ _ HQ.out.s]; rfl)); (case b8 => exact all_oneCell_toArray (pcl_one _ _ _ _ a1 (_, _))); change wpList _ _ _ _ _ ((w1.alloc (.cells (pcl 0 0 0 s8 (.slice none 0 0)).toArray 101)).setRow w1.heap.size (pcl q.id q.cnt q.idx q.sum (.slice a1 q.cont.length c1)).toArray); have HAD := Lib.hid (ad_start (p := p) (O := (pcl 0 0 0 s8 (.slice none 0 0)).toArray) HZ0.out HQ.out HK1.out HO1.out (W2 := (w1.alloc (.cells (pcl 0 0 0 s8 (.slice none 0 0)).toArray 101)).setRow w1.heap.size (pcl q.id q.cnt q.idx q.sum (.slice a1 q.cont.length c1)).toArray) rfl); have c0 : ((w1.alloc (.cells (pcl 0 0 0 s8 (.slice none 0 0)).toArray 101)).setRow w1.heap.size (pcl q.id q.cnt q.idx q.sum (.slice a1 q.cont.length c1)).toArray).cell? ⟨w1.heap.size, 0, none⟩ = some (.int .u32 q.id) := (by rw [cell_of_row _ w1.heap.size 0 _ _ _ (setRow_heap _ _ _ _ _ _ (heap_alloc_new w1 _))]; rfl); generalize (w1.alloc (.cells (pcl 0 0 0 s8 (.slice none 0 0)).toArray 101)).setRow w1.heap.size (pcl q.id q.cnt q.idx q.sum (.slice a1 q.cont.length c1)).toArray = W2 at *))
    | fail)
  generalize w1.heap.size = xb at *
  generalize W2.heap.size = nb at *
  generalize W2.alloc (.cells #[.string (strOf p), .int .u32 q.id] 105) = W3 at *
  clear c0 HO1 HK1
  obtain ⟨ct0, ct1, cn0, cn1, cx0, cx1, cx2⟩ := HAD.out.c0
  have hlk : ∀ n, (Instr.lookup 97 (.map (some B)) (.agg #[.string (strOf p), .int .u32 q.id]) false).run Tryd.prog (W3.drewN n) = .ok (.pointer (some ⟨z.pb, 0, none⟩)) (W3.drewN n) := fun n => HLK.out _ (HAD.out.z.kp0 ((Kp.refl [] W3).drewN n))
  go_quiet (fail)
  have HAD4 := Lib.hid (HAD.out.kp ((Kp.refl [] W3).drewN nq))
  clear hlk HAD HLK ct0 ct1 cn0 cn1 cx0 cx1 cx2
  generalize W3.drewN nq = W4 at *
  clear hz
  obtain ⟨ct0, ct1, cn0, cn1, cx0, cx1, cx2⟩ := HAD4.out.c0
  go_wp2_with fail
  go_quiet (fail)
  have HAD5 := Lib.hid (HAD4.out.kp ((Kp.refl [] W4).drewN nq))
  clear HAD4 ct0 ct1 cn0 cn1 cx0 cx1 cx2
  generalize W4.drewN nq = W5 at *
  go_wp2_with fail
  have HPC5 := Lib.hid (HAD5.out.z.p z HZM.out)
  have hcb : ((z.e.parts.length : Int) != q.cnt) = false := by rw [HCNT.out]; simp
  have hne : ∀ W, (binOp .neq 88 (.agg (bv z.e.sum).toArray) (.agg (bv q.sum).toArray)).run Tryd.prog W = .ok (.bool false) W := fun W => by rw [HSUM.out]; exact mark_same q.sum HQ.out.s W
  have hu1 := Tryd.underlying88
  have hi1 : (Tryd.prog.info? 88).map (·.size) = some (bv q.sum).length := by rw [bv_length, HQ.out.s]; kernel_rfl
  have hi2 : (Tryd.prog.info? 88).map (·.size) = some (bv z.e.sum).length := by rw [bv_length, HPC5.out.hs]; kernel_rfl
  refine wp_region_noPanic ?_
  refine wp_region_held_drew (S := fun w' => AD w w' G t most B Z xb nb q (.slice a1 q.cont.length c1) p ∧ PcAt w' G z.pb z.ab z.e.sum z.e.parts) (by kernel_rfl) (⟨HAD5.out.drew, HPC5.out.kp0 ((Kp.refl [] W5).drew)⟩) (fun hHeld => ?_)
  clear HAD5 HPC5
  generalize W5.drew = W6 at *
  refine wpAnyH_take (i := 0) (oi := { dst := some 61, op := Op.move (Operand.tmp 11), type := 106, pos := "parcel.go:158", after := #[], guard := none }) (v := .pointer (some ⟨z.pb, 0, none⟩)) rfl (by kernel_rfl) (by kernel_rfl) (by kernel_rfl) (fun _ _ _ h => h) (Or.inl ⟨by rfl, by intro w hSw; (try dsimp only at hSw); go_simp⟩) (by assumption) ?_
  try simp only [Act.put, List.setIfInBounds_toArray, List.set_cons_zero, List.set_cons_succ]
  refine wpAnyH_take (i := 1) (oi := { dst := some 62, op := Op.nilCheck (Operand.tmp 61), type := 0, pos := "parcel.go:158", after := #[{ on := 0, ground := Ground.data }], guard := none }) (v := .pointer (some ⟨z.pb, 0, none⟩)) rfl (by kernel_rfl) (by kernel_rfl) (by kernel_rfl) (fun _ _ _ h => h) (Or.inl ⟨by rfl, by intro w hSw; (try dsimp only at hSw); go_simp⟩) (by assumption) ?_
  try simp only [Act.put, List.setIfInBounds_toArray, List.set_cons_zero, List.set_cons_succ]
  refine wpAnyH_take (i := 2) (oi := { dst := some 63, op := Op.fieldAddr 109 (Operand.tmp 62) 1, type := 0, pos := "parcel.go:158", after := #[{ on := 1, ground := Ground.data }], guard := none }) (v := .pointer (some ⟨z.pb, 8, none⟩)) rfl (by kernel_rfl) (by kernel_rfl) (by kernel_rfl) (fun _ _ _ h => h) (Or.inl ⟨by rfl, by intro w hSw; (try dsimp only at hSw); go_simp⟩) (by assumption) ?_
  try simp only [Act.put, List.setIfInBounds_toArray, List.set_cons_zero, List.set_cons_succ]
  refine wpAnyH_take (i := 3) (oi := { dst := some 64, op := Op.load 107 (Operand.tmp 63), type := 107, pos := "parcel.go:158", after := #[{ on := 2, ground := Ground.data }], guard := none }) (v := .slice (some ⟨z.ab, 0, none⟩) z.e.parts.length z.e.parts.length) rfl (by kernel_rfl) (by kernel_rfl) (by kernel_rfl) (fun _ _ _ h => h) (Or.inl ⟨by rfl, by intro w hSw; (try dsimp only at hSw); have hcx := hSw.2.c8; go_simp⟩) (by assumption) ?_
  try simp only [Act.put, List.setIfInBounds_toArray, List.set_cons_zero, List.set_cons_succ]
  refine wpAnyH_take (i := 4) (oi := { dst := some 65, op := Op.call { callee := Callee.builtin Builtin.len, args := #[Operand.tmp 64], argTypes := #[107] }, type := 3, pos := "parcel.go:158", after := #[{ on := 3, ground := Ground.data }], guard := none }) (v := .int .i64 (z.e.parts.length : Int)) rfl (by kernel_rfl) (by kernel_rfl) (by kernel_rfl) (fun _ _ _ h => h) (Or.inl ⟨by rfl, by intro w hSw; (try dsimp only at hSw); go_simp⟩) (by assumption) ?_
  try simp only [Act.put, List.setIfInBounds_toArray, List.set_cons_zero, List.set_cons_succ]
  refine wpAnyH_take (i := 5) (oi := { dst := some 66, op := Op.fieldAddr 101 (Operand.tmp 9) 1, type := 0, pos := "parcel.go:158", after := #[], guard := none }) (v := .pointer (some ⟨xb, 1, none⟩)) rfl (by kernel_rfl) (by kernel_rfl) (by kernel_rfl) (fun _ _ _ h => h) (Or.inl ⟨by rfl, by intro w hSw; (try dsimp only at hSw); go_simp⟩) (by assumption) ?_
  try simp only [Act.put, List.setIfInBounds_toArray, List.set_cons_zero, List.set_cons_succ]
  refine wpAnyH_take (i := 6) (oi := { dst := some 67, op := Op.load 3 (Operand.tmp 66), type := 3, pos := "parcel.go:158", after := #[{ on := 5, ground := Ground.data }], guard := none }) (v := .int .i64 q.cnt) rfl (by kernel_rfl) (by kernel_rfl) (by kernel_rfl) (fun _ _ _ h => h) (Or.inl ⟨by rfl, by intro w hSw; (try dsimp only at hSw); have hcx := hSw.1.c0.2.2.2.2.2.1; go_simp⟩) (by assumption) ?_
  try simp only [Act.put, List.setIfInBounds_toArray, List.set_cons_zero, List.set_cons_succ]
  refine wpAnyH_take (i := 7) (oi := { dst := some 68, op := Op.binOp BinOp.neq 3 (Operand.tmp 65) (Operand.tmp 67) 3, type := 4, pos := "parcel.go:158", after := #[{ on := 4, ground := Ground.data }, { on := 6, ground := Ground.data }], guard := none }) (v := .bool false) rfl (by kernel_rfl) (by kernel_rfl) (by kernel_rfl) (fun _ _ _ h => h) (Or.inl ⟨by rfl, by intro w hSw; (try dsimp only at hSw); go_simp⟩) (by assumption) ?_
  try simp only [Act.put, List.setIfInBounds_toArray, List.set_cons_zero, List.set_cons_succ]
  refine wpAnyH_take (i := 8) (oi := { dst := some 69, op := Op.move (Operand.tmp 68), type := 4, pos := "parcel.go:158", after := #[{ on := 7, ground := Ground.data }], guard := none }) (v := .bool false) rfl (by kernel_rfl) (by kernel_rfl) (by kernel_rfl) (fun _ _ _ h => h) (Or.inl ⟨by rfl, by intro w hSw; (try dsimp only at hSw); go_simp⟩) (by assumption) ?_
  try simp only [Act.put, List.setIfInBounds_toArray, List.set_cons_zero, List.set_cons_succ]
  refine wpAnyH_take (i := 9) (oi := { dst := some 70, op := Op.move (Operand.tmp 11), type := 106, pos := "parcel.go:158", after := #[{ on := 8, ground := Ground.guard }], guard := some (8, false) }) (v := .pointer (some ⟨z.pb, 0, none⟩)) rfl (by kernel_rfl) (by kernel_rfl) (by kernel_rfl) (fun _ _ _ h => h) (Or.inl ⟨by rfl, by intro w hSw; (try dsimp only at hSw); go_simp⟩) (by assumption) ?_
  try simp only [Act.put, List.setIfInBounds_toArray, List.set_cons_zero, List.set_cons_succ]
  refine wpAnyH_take (i := 10) (oi := { dst := some 71, op := Op.nilCheck (Operand.tmp 70), type := 0, pos := "parcel.go:158", after := #[{ on := 9, ground := Ground.data }, { on := 8, ground := Ground.guard }], guard := some (8, false) }) (v := .pointer (some ⟨z.pb, 0, none⟩)) rfl (by kernel_rfl) (by kernel_rfl) (by kernel_rfl) (fun _ _ _ h => h) (Or.inl ⟨by rfl, by intro w hSw; (try dsimp only at hSw); go_simp⟩) (by assumption) ?_
  try simp only [Act.put, List.setIfInBounds_toArray, List.set_cons_zero, List.set_cons_succ]
  refine wpAnyH_take (i := 11) (oi := { dst := some 72, op := Op.fieldAddr 109 (Operand.tmp 71) 0, type := 0, pos := "parcel.go:158", after := #[{ on := 10, ground := Ground.data }, { on := 8, ground := Ground.guard }], guard := some (8, false) }) (v := .pointer (some ⟨z.pb, 0, none⟩)) rfl (by kernel_rfl) (by kernel_rfl) (by kernel_rfl) (fun _ _ _ h => h) (Or.inl ⟨by rfl, by intro w hSw; (try dsimp only at hSw); go_simp⟩) (by assumption) ?_
  try simp only [Act.put, List.setIfInBounds_toArray, List.set_cons_zero, List.set_cons_succ]
  refine wpAnyH_take (i := 12) (oi := { dst := some 73, op := Op.load 88 (Operand.tmp 72), type := 88, pos := "parcel.go:158", after := #[{ on := 11, ground := Ground.data }, { on := 8, ground := Ground.guard }], guard := some (8, false) }) (v := .agg (bv z.e.sum).toArray) rfl (by kernel_rfl) (by kernel_rfl) (by kernel_rfl) (fun _ _ _ h => h) (yieldsIf_load_mid (by rfl) 88 (.tmp 72) (by rfl) z.pb 0 (by rfl) (bv z.e.sum) _ (fun w h => h.2.range) hu1 rfl hi2) (by assumption) ?_
  try simp only [Act.put, List.setIfInBounds_toArray, List.set_cons_zero, List.set_cons_succ]
  refine wpAnyH_take (i := 13) (oi := { dst := some 74, op := Op.fieldAddr 101 (Operand.tmp 9) 3, type := 0, pos := "parcel.go:158", after := #[{ on := 8, ground := Ground.guard }], guard := some (8, false) }) (v := .pointer (some ⟨xb, 3, none⟩)) rfl (by kernel_rfl) (by kernel_rfl) (by kernel_rfl) (fun _ _ _ h => h) (Or.inl ⟨by rfl, by intro w hSw; (try dsimp only at hSw); go_simp⟩) (by assumption) ?_
  try simp only [Act.put, List.setIfInBounds_toArray, List.set_cons_zero, List.set_cons_succ]
  refine wpAnyH_take (i := 14) (oi := { dst := some 75, op := Op.load 88 (Operand.tmp 74), type := 88, pos := "parcel.go:158", after := #[{ on := 13, ground := Ground.data }, { on := 8, ground := Ground.guard }], guard := some (8, false) }) (v := .agg (bv q.sum).toArray) rfl (by kernel_rfl) (by kernel_rfl) (by kernel_rfl) (fun _ _ _ h => h) (yieldsIf_load_mid (by rfl) 88 (.tmp 74) (by rfl) xb 3 (by rfl) (bv q.sum) _ (fun w h => h.1.x.range) hu1 rfl hi1) (by assumption) ?_
  try simp only [Act.put, List.setIfInBounds_toArray, List.set_cons_zero, List.set_cons_succ]
  refine wpAnyH_take (i := 15) (oi := { dst := some 76, op := Op.binOp BinOp.neq 88 (Operand.tmp 73) (Operand.tmp 75) 88, type := 4, pos := "parcel.go:158", after := #[{ on := 12, ground := Ground.data }, { on := 14, ground := Ground.data }, { on := 8, ground := Ground.guard }], guard := some (8, false) }) (v := .bool false) rfl (by kernel_rfl) (by kernel_rfl) (by kernel_rfl) (fun _ _ _ h => h) (Or.inl ⟨by rfl, by intro w hSw; (try dsimp only at hSw); go_simp⟩) (by assumption) ?_
  try simp only [Act.put, List.setIfInBounds_toArray, List.set_cons_zero, List.set_cons_succ]
  refine wpAnyH_take (i := 16) (oi := { dst := some 77, op := Op.pick (Operand.tmp 69) (Operand.const (Value.bool true)) (Operand.tmp 76), type := 4, pos := "parcel.go:158", after := #[{ on := 8, ground := Ground.data }, { on := 15, ground := Ground.data }], guard := none }) (v := .bool false) rfl (by kernel_rfl) (by kernel_rfl) (by kernel_rfl) (fun _ _ _ h => h) (Or.inl ⟨by rfl, by intro w hSw; (try dsimp only at hSw); go_simp⟩) (by assumption) ?_
  try simp only [Act.put, List.setIfInBounds_toArray, List.set_cons_zero, List.set_cons_succ]
  refine wpAnyH_take (i := 17) (oi := { dst := some 60, op := Op.assign (Operand.tmp 77), type := 4, pos := "parcel.go:158", after := #[{ on := 16, ground := Ground.data }, { on := 8, ground := Ground.chain }], guard := none }) (v := .bool false) rfl (by kernel_rfl) (by kernel_rfl) (by kernel_rfl) (fun _ _ _ h => h) (Or.inl ⟨by rfl, by intro w hSw; (try dsimp only at hSw); go_simp⟩) (by assumption) ?_
  try simp only [Act.put, List.setIfInBounds_toArray, List.set_cons_zero, List.set_cons_succ]
  refine wpAnyH_done (by kernel_rfl) ?_ _
  refine NoPanic.normal ?_
  have HAD6 := Lib.hid hHeld.1
  have HPC6 := Lib.hid hHeld.2
  clear hHeld hne hcb
  obtain ⟨ct0, ct1, cn0, cn1, cx0, cx1, cx2⟩ := HAD6.out.c0
  have c8' := HPC6.out.c8
  have hi0 := HQ.out.i0
  have HIL : Hid (q.idx < (z.e.parts.length : Int)) := Lib.hid (by rw [HCNT.out]; exact HQ.out.i1)
  have hil := HIL.out
  have hcn := HPC6.out.hole HIX.out
  go_wp2_with fail
  go_quiet (fail)
  have HAD7 := Lib.hid (HAD6.out.kp ((Kp.refl [] W6).drewN nq))
  have HPC7 := Lib.hid (HPC6.out.kp (G := Gn G w z.ab) ((Kp.refl [] W6).drewN nq) (by simp) (by simp) (fun _ hb => .inl hb))
  clear ct0 ct1 cn0 cn1 cx0 cx1 cx2 c8' hi0 hil hcn HAD6 HPC6
  generalize W6.drewN nq = W7 at *
  have HIXL : Hid (q.idx.toNat < z.e.parts.length) := Lib.hid (List.getElem?_eq_some_iff.1 HIX.out).1
  have HGA : Hid (¬ G z.ab) := Lib.hid (HZ0.out.ga z HZM.out)
  have HAL : Hid (z.ab < w.heap.size) := Lib.hid (HZ0.out.p z HZM.out).lt
  have hmb : (((nv (missL z.e.parts)).length : Int) == 1) = true := by rw [nv_len]; rw [HW.out]; rfl
  have HMI : Hid (Calls Tryd.prog 51 #[.pointer (some ⟨z.pb, 0, none⟩)] W7 fun e w' => ∃ v, e = .returned v ∧ Own w' W7.heap.size 3 v (nv (missL z.e.parts)) ∧ Kp [] W7 w') := Lib.hid (missing_any _ _ _ _ _ _ HPC7.out)
  go_wp2_with (first
    | (go_at_call 51; go_must (refine HMI.out.mono ?_; rintro e w8 ⟨v8, rfl, ho8, hk8⟩; obtain ⟨a8, c8, rfl⟩ := ho8.rd.form; have HAD8 := Lib.hid (HAD7.out.kp hk8); have HPC8 := Lib.hid (HPC7.out.kp0 hk8); clear ho8 hk8))
    | fail)
  clear HAD7 HPC7 HMI
  have HTX : Hid (∀ W, PcAt W (Gn G w z.ab) z.pb z.ab z.e.sum z.e.parts → PartAt W xb q (.slice a1 q.cont.length c1) → Calls Tryd.prog 52 #[.pointer (some ⟨z.pb, 0, none⟩), .pointer (some ⟨xb, 0, none⟩)] W fun e w' => ∃ v, e = .returned v ∧ Cut w' W.heap.size v (textL (z.e.parts.set q.idx.toNat (some q.cont))) ∧ Kp [] W w') := Lib.hid (fun W h1 h2 => text_with _ _ _ _ _ xb q (.slice a1 q.cont.length c1) q.idx.toNat W h1 h2 (by have := HQ.out.i0; omega) (miss_one HW.out HIX.out))
  have HTL : Hid ((textL (z.e.parts.set q.idx.toNat (some q.cont))).length ≤ 562949953421312) := Lib.hid (by have h1 := textL_len (z.e.parts.set q.idx.toNat (some q.cont)) (fun c hc => by rcases List.mem_or_eq_of_mem_set hc with hc | hc; exact HPC8.out.short c hc; cases hc; exact HQ.out.l); have h2 := HPC8.out.hn.2; rw [List.length_set] at h1; omega)
  have HSL : Hid (z.e.sum.length = 8) := Lib.hid HPC8.out.hs
  have HMN := Lib.hid (HML.out (textL (z.e.parts.set q.idx.toNat (some q.cont))))
  have hne := fun W => mark_same z.e.sum HSL.out W
  have HEQ := HS
  have hu1 := Tryd.underlying88
  have hi1 : (Tryd.prog.info? 88).map (·.size) = some (bv z.e.sum).length := by rw [bv_length, HSL.out]; kernel_rfl
  refine wp_region_noPanic ?_
  refine wp_region_held_drew (S := fun w' => AD w w' G t most B Z xb nb q (.slice a1 q.cont.length c1) p ∧ PcAt w' (Gn G w z.ab) z.pb z.ab z.e.sum z.e.parts) (by kernel_rfl) (⟨HAD8.out.drew, HPC8.out.kp0 ((Kp.refl [] w8).drew)⟩) (fun hHeld => ?_)
  clear hmb
  refine wpAnyH_take (i := 0) (oi := { dst := some 92, op := Op.move (Operand.tmp 7), type := 4, pos := "parcel.go:164", after := #[], guard := none }) (v := .bool true) rfl (by kernel_rfl) (by kernel_rfl) (by kernel_rfl) (fun _ _ _ h => h) (Or.inl ⟨by rfl, by intro w hSw; (try dsimp only at hSw); go_simp⟩) (by assumption) ?_
  try simp only [Act.put, List.setIfInBounds_toArray, List.set_cons_zero, List.set_cons_succ]
  refine wpAnyH_take (i := 1) (oi := { dst := some 93, op := Op.move (Operand.tmp 92), type := 4, pos := "parcel.go:164", after := #[{ on := 0, ground := Ground.data }], guard := none }) (v := .bool true) rfl (by kernel_rfl) (by kernel_rfl) (by kernel_rfl) (fun _ _ _ h => h) (Or.inl ⟨by rfl, by intro w hSw; (try dsimp only at hSw); go_simp⟩) (by assumption) ?_
  try simp only [Act.put, List.setIfInBounds_toArray, List.set_cons_zero, List.set_cons_succ]
  refine wpAnyH_take (i := 2) (oi := { dst := some 94, op := Op.move (Operand.tmp 11), type := 106, pos := "parcel.go:164", after := #[{ on := 1, ground := Ground.guard }], guard := some (1, true) }) (v := .pointer (some ⟨z.pb, 0, none⟩)) rfl (by kernel_rfl) (by kernel_rfl) (by kernel_rfl) (fun _ _ _ h => h) (Or.inl ⟨by rfl, by intro w hSw; (try dsimp only at hSw); go_simp⟩) (by assumption) ?_
  try simp only [Act.put, List.setIfInBounds_toArray, List.set_cons_zero, List.set_cons_succ]
  refine wpAnyH_take (i := 5) (oi := { dst := some 97, op := Op.move (Operand.tmp 11), type := 106, pos := "parcel.go:164", after := #[{ on := 1, ground := Ground.guard }], guard := some (1, true) }) (v := .pointer (some ⟨z.pb, 0, none⟩)) rfl (by kernel_rfl) (by kernel_rfl) (by kernel_rfl) (fun _ _ _ h => h) (Or.inl ⟨by rfl, by intro w hSw; (try dsimp only at hSw); go_simp⟩) (by assumption) ?_
  try simp only [Act.put, List.setIfInBounds_toArray, List.set_cons_zero, List.set_cons_succ]
  refine wpAnyH_take (i := 6) (oi := { dst := some 98, op := Op.nilCheck (Operand.tmp 97), type := 0, pos := "parcel.go:164", after := #[{ on := 5, ground := Ground.data }, { on := 1, ground := Ground.guard }], guard := some (1, true) }) (v := .pointer (some ⟨z.pb, 0, none⟩)) rfl (by kernel_rfl) (by kernel_rfl) (by kernel_rfl) (fun _ _ _ h => h) (Or.inl ⟨by rfl, by intro w hSw; (try dsimp only at hSw); go_simp⟩) (by assumption) ?_
  try simp only [Act.put, List.setIfInBounds_toArray, List.set_cons_zero, List.set_cons_succ]
  refine wpAnyH_take (i := 7) (oi := { dst := some 99, op := Op.fieldAddr 109 (Operand.tmp 98) 0, type := 0, pos := "parcel.go:164", after := #[{ on := 6, ground := Ground.data }, { on := 1, ground := Ground.guard }], guard := some (1, true) }) (v := .pointer (some ⟨z.pb, 0, none⟩)) rfl (by kernel_rfl) (by kernel_rfl) (by kernel_rfl) (fun _ _ _ h => h) (Or.inl ⟨by rfl, by intro w hSw; (try dsimp only at hSw); go_simp⟩) (by assumption) ?_
  try simp only [Act.put, List.setIfInBounds_toArray, List.set_cons_zero, List.set_cons_succ]
  refine wpAnyH_take (i := 8) (oi := { dst := some 100, op := Op.load 88 (Operand.tmp 99), type := 88, pos := "parcel.go:164", after := #[{ on := 7, ground := Ground.data }, { on := 1, ground := Ground.guard }], guard := some (1, true) }) (v := .agg (bv z.e.sum).toArray) rfl (by kernel_rfl) (by kernel_rfl) (by kernel_rfl) (fun _ _ _ h => h) (yieldsIf_load_mid (by rfl) 88 (.tmp 99) (by rfl) z.pb 0 (by rfl) (bv z.e.sum) _ (fun w h => h.2.range) hu1 rfl hi1) (by assumption) ?_
  try simp only [Act.put, List.setIfInBounds_toArray, List.set_cons_zero, List.set_cons_succ]
  refine wpAnyH_ready (rs := [3]) (by kernel_rfl) (by simp) ?_
  refine AllReadyH.cons (o := { dst := some 95, op := Op.call { callee := Callee.value (Operand.func 52), args := #[Operand.tmp 94, Operand.tmp 9], argTypes := #[106, 110] }, type := 27, pos := "parcel.go:164", after := #[{ on := 2, ground := Ground.data }, { on := 1, ground := Ground.chain }, { on := 1, ground := Ground.guard }], guard := some (1, true) }) rfl (fun K' hK => ?_) AllReadyH.nil
  go_simp
  refine (HTX.out _ hHeld.2 hHeld.1.x).mono ?_
  rintro e w4 ⟨v4, rfl, hcu4, hk4⟩
  have HCU := Lib.hid hcu4
  have hm4 : AD w w4 G t most B Z xb nb q (.slice a1 q.cont.length c1) p ∧ PcAt w4 (Gn G w z.ab) z.pb z.ab z.e.sum z.e.parts := ⟨hHeld.1.kp hk4, hHeld.2.kp0 hk4⟩
  clear hk4 hHeld hcu4
  (try go_simp)
  refine hK.out _ _ (hm4) (fun hHeld => ?_)
  clear hK K'
  try simp only [Act.put, List.setIfInBounds_toArray, List.set_cons_zero, List.set_cons_succ]
  refine wpAnyH_ready (rs := [4]) (by kernel_rfl) (by simp) ?_
  refine AllReadyH.cons (o := { dst := some 96, op := Op.call { callee := Callee.value (Operand.func 43), args := #[Operand.tmp 95], argTypes := #[27] }, type := 88, pos := "parcel.go:164", after := #[{ on := 3, ground := Ground.data }, { on := 3, ground := Ground.chain }, { on := 1, ground := Ground.guard }], guard := some (1, true) }) rfl (fun K' hK => ?_) AllReadyH.nil
  go_simp
  refine (HTB.out w4 v4 _ hm4.1.k HCU.out.rd HTL.out).mono ?_
  rintro e w5 ⟨rfl, hk5⟩
  have hm5 : AD w w5 G t most B Z xb nb q (.slice a1 q.cont.length c1) p ∧ PcAt w5 (Gn G w z.ab) z.pb z.ab z.e.sum z.e.parts := ⟨hm4.1.kp hk5, hm4.2.kp0 hk5⟩
  clear hk5 hm4 HCU hHeld
  (try go_simp)
  refine hK.out _ _ (hm5) (fun hHeld => ?_)
  clear hK K'
  try simp only [Act.put, List.setIfInBounds_toArray, List.set_cons_zero, List.set_cons_succ]
  simp only [HEQ.out]
  refine wpAnyH_take (i := 9) (oi := { dst := some 101, op := Op.binOp BinOp.neq 88 (Operand.tmp 96) (Operand.tmp 100) 88, type := 4, pos := "parcel.go:164", after := #[{ on := 4, ground := Ground.data }, { on := 8, ground := Ground.data }, { on := 1, ground := Ground.guard }], guard := some (1, true) }) (v := .bool false) rfl (by kernel_rfl) (by kernel_rfl) (by kernel_rfl) (fun _ _ _ h => h) (Or.inl ⟨by rfl, by intro w hSw; (try dsimp only at hSw); go_simp⟩) (by assumption) ?_
  try simp only [Act.put, List.setIfInBounds_toArray, List.set_cons_zero, List.set_cons_succ]
  refine wpAnyH_take (i := 10) (oi := { dst := some 102, op := Op.pick (Operand.tmp 93) (Operand.tmp 101) (Operand.const (Value.bool false)), type := 4, pos := "parcel.go:164", after := #[{ on := 1, ground := Ground.data }, { on := 9, ground := Ground.data }], guard := none }) (v := .bool false) rfl (by kernel_rfl) (by kernel_rfl) (by kernel_rfl) (fun _ _ _ h => h) (Or.inl ⟨by rfl, by intro w hSw; (try dsimp only at hSw); go_simp⟩) (by assumption) ?_
  try simp only [Act.put, List.setIfInBounds_toArray, List.set_cons_zero, List.set_cons_succ]
  refine wpAnyH_done (by kernel_rfl) ?_ _
  refine NoPanic.normal ?_
  have HAD9 := Lib.hid hHeld.1
  have HPC9 := Lib.hid hHeld.2
  clear hHeld hm5 hne HEQ
  generalize hW9 : w5 = W9 at *
  clear hW9
  have HAD10 := Lib.hid HAD9.out.drew
  have HPC10 := Lib.hid (HPC9.out.kp0 ((Kp.refl [] W9).drew))
  obtain ⟨ct0, ct1, cn0, cn1, cx0, cx1, cx2⟩ := HAD9.out.c0
  have c8' := HPC9.out.c8
  have hi0 := HQ.out.i0
  have hil : q.idx < (z.e.parts.length : Int) := HIL.out
  have hcn : W9.drew.cell? ⟨z.ab, q.idx.toNat, none⟩ = some (.pointer none) := HPC10.out.hole HIX.out
  have hfz : W9.drew.frozen? ⟨z.ab, q.idx.toNat, none⟩ = false := HPC10.out.free _
  go_wp2_with fail
  go_still_tail 7, (by kernel_rfl)
  change wpList _ _ _ _ _ W9.drew
  clear ct0 ct1 cn0 cn1 cx0 cx1 cx2 c8' hi0 hil
  generalize W9.drew = W10 at *
  have HAE := Lib.hid (ae_of HAD10.out HPC10.out HGA.out HIXL.out (fun b hb => by have h1 := (HAD10.out.lc b hb).1; have h2 := HAL.out; omega) (W' := W10.setCell ⟨z.ab, q.idx.toNat, none⟩ (.pointer (some ⟨xb, 0, none⟩))) rfl)
  go_wp2_with fail
  clear hcn hfz HAD9 HPC9 HAD10 HPC10
  generalize W10.setCell ⟨z.ab, q.idx.toNat, none⟩ (.pointer (some ⟨xb, 0, none⟩)) = W11 at *
  have HAE2 := Lib.hid HAE.out.drew
  obtain ⟨ct1, cn0, cn1⟩ := HAE.out.c0
  go_still_tail 6, (by kernel_rfl)
  change wpList _ _ _ _ _ W11.drew
  clear ct1 cn0 cn1 HAE
  generalize W11.drew = W12 at *
  go_wp2_with (first
    | (at_mapUpdate; (refine wpl_upd (k := (p, q.id)) (b := z.pb) rfl _ _ _ rfl rfl rfl rfl (HAE2.out.m.upd_old HKO.out z.pb (by rw [lookK_Zk, HZF.out]; rfl)) ?_; intro w13 hm13 hk13; have HF13 := Lib.hid (fin_old HZ0.out HZF.out HAE2.out hm13 hk13); have cx0 := HAE2.out.id hk13; clear hm13 hk13))
    | fail)
  go_ret3
  exact ⟨rfl, HF13.out.1, HF13.out.2⟩
set_option maxRecDepth 100000 in
set_option maxHeartbeats 2000000 in
theorem add_old_sum (mk : List UInt8 → List UInt8) (w : World) (G : Nat → Prop) (t : Nat) (most : Int) (B : Nat) (Z : List Zt) (p : List UInt8) (v : Value) (q : Prt) (h : AH mk w G t most B Z p v q) (z : Zt) (hz : findZ Z (p, q.id) = some z) (hcnt : (z.e.parts.length : Int) = q.cnt) (hsum : z.e.sum = q.sum) (hix : z.e.parts[q.idx.toNat]? = some none) (hw : (missL z.e.parts).length = 1) (hs : mk (textL (z.e.parts.set q.idx.toNat (some q.cont))) ≠ z.e.sum) : Calls Tryd.prog 26 #[.pointer (some ⟨t, 0, none⟩), .string (strOf p), v] w fun e w' => e = .returned (.tuple #[.int .u32 0, .bool false, .int .i64 101]) ∧ Kp [] w w' := by
  have HW := Lib.hid hw
  clear hw
  have HS := Lib.hid hs
  clear hs
  have HCNT := Lib.hid hcnt
  clear hcnt
  have HSUM := Lib.hid hsum
  clear hsum
  have HIX := Lib.hid hix
  clear hix
  have HZF := Lib.hid hz
  have HZM := Lib.hid (findZ_mem hz).1
  have HN := Lib.hid h.hn
  have HRD := Lib.hid h.hr
  have HZ0 := Lib.hid h.z
  have HQ := Lib.hid h.qo
  have HKO := Lib.hid h.ko
  have HTB := Lib.hid h.mc
  have HML := Lib.hid h.ml
  have HGL := Lib.hid h.gl
  have HLK : Hid (∀ W, TRz W G t most B Z → (Instr.lookup 97 (.map (some B)) (.agg #[.string (strOf p), .int .u32 q.id]) false).run Tryd.prog W = .ok (.pointer (some ⟨z.pb, 0, none⟩)) W) := Lib.hid (fun W hW => by have := hW.m.lookup (k := (p, q.id)) h.ko; rw [lookK_Zk, hz] at this; exact this)
  clear h
  go_enter Tryd.func26, Tryd.ntmps26
  go_wp2_with (first
    | (go_at_call 49; go_must (refine HN.out.mono ?_; rintro e w1 ⟨rfl, rfl⟩))
    | (go_at_call 50; go_must (refine HRD.out.mono ?_; rintro e w1 ⟨a1, c1, rfl, ho1, hk1⟩; have HO1 := Lib.hid ho1; have HK1 := Lib.hid hk1; clear ho1 hk1))
    | ((with_reducible show wpList _ _ _ ({ dst := none, op := Op.store _ (.tmp 9) (.tmp 20), type := _, pos := _, after := _, guard := _ } :: _) _ _); go_must ((with_reducible refine wpList_store_row ?b1 101 (.tmp 9) (.tmp 20) ?b2 w1.heap.size (pcl q.id q.cnt q.idx q.sum (.slice a1 q.cont.length c1)).toArray ?b3 ?b4 101 (pcl 0 0 0 s8 (.slice none 0 0)).toArray ?b5 ?b6 ?b7 ?b8 ?b9); (case b1 => rfl); (case b2 => rfl); (case b3 => rfl); (case b4 => rfl); (case b5 => exact heap_alloc_new w1 _); (case b6 => (rw [List.size_toArray, pcl_len _ _ _ _ _ HQ.out.s]; kernel_rfl)); (case b7 => (rw [List.size_toArray, List.size_toArray, pcl_len _ _ _ _ _ HQ.out.s]; rfl)); (case b8 => exact all_oneCell_toArray (pcl_one _ _ _ _ a1 (_, _))); change wpList _ _ _ _ _ ((w1.alloc (.cells (pcl 0 0 0 s8 (.slice none 0 0)).toArray 101)).setRow w1.heap.size (pcl q.id q.cnt q.idx q.sum (.slice a1 q.cont.length c1)).toArray); have HAD := Lib.hid (ad_start (p := p) (O := (pcl 0 0 0 s8 (.slice none 0 0)).toArray) HZ0.out HQ.out HK1.out HO1.out (W2 := (w1.alloc (.cells (pcl 0 0 0 s8 (.slice none 0 0)).toArray 101)).setRow w1.heap.size (pcl q.id q.cnt q.idx q.sum (.slice a1 q.cont.length c1)).toArray) rfl); have c0 : ((w1.alloc (.cells (pcl 0 0 0 s8 (.slice none 0 0)).toArray 101)).setRow w1.heap.size (pcl q.id q.cnt q.idx q.sum (.slice a1 q.cont.length c1)).toArray).cell? ⟨w1.heap.size, 0, none⟩ = some (.int .u32 q.id) := (by rw [cell_of_row _ w1.heap.size 0 _ _ _ (setRow_heap _ _ _ _ _ _ (heap_alloc_new w1 _))]; rfl); generalize (w1.alloc (.cells (pcl 0 0 0 s8 (.slice none 0 0)).toArray 101)).setRow w1.heap.size (pcl q.id q.cnt q.idx q.sum (.slice a1 q.cont.length c1)).toArray = W2 at *))
    | fail)
  generalize w1.heap.size = xb at *
  generalize W2.heap.size = nb at *
  generalize W2.alloc (.cells #[.string (strOf p), .int .u32 q.id] 105) = W3 at *
  clear c0 HO1 HK1
  obtain ⟨ct0, ct1, cn0, cn1, cx0, cx1, cx2⟩ := HAD.out.c0
  have hlk : ∀ n, (Instr.lookup 97 (.map (some B)) (.agg #[.string (strOf p), .int .u32 q.id]) false).run Tryd.prog (W3.drewN n) = .ok (.pointer (some ⟨z.pb, 0, none⟩)) (W3.drewN n) := fun n => HLK.out _ (HAD.out.z.kp0 ((Kp.refl [] W3).drewN n))
  go_quiet (fail)
  have HAD4 := Lib.hid (HAD.out.kp ((Kp.refl [] W3).drewN nq))
  clear hlk HAD HLK ct0 ct1 cn0 cn1 cx0 cx1 cx2
  generalize W3.drewN nq = W4 at *
  clear hz
  obtain ⟨ct0, ct1, cn0, cn1, cx0, cx1, cx2⟩ := HAD4.out.c0
  go_wp2_with fail
  go_quiet (fail)
  have HAD5 := Lib.hid (HAD4.out.kp ((Kp.refl [] W4).drewN nq))
  clear HAD4 ct0 ct1 cn0 cn1 cx0 cx1 cx2
  generalize W4.drewN nq = W5 at *
  go_wp2_with fail
  have HPC5 := Lib.hid (HAD5.out.z.p z HZM.out)
  have hcb : ((z.e.parts.length : Int) != q.cnt) = false := by rw [HCNT.out]; simp
  have hne : ∀ W, (binOp .neq 88 (.agg (bv z.e.sum).toArray) (.agg (bv q.sum).toArray)).run Tryd.prog W = .ok (.bool false) W := fun W => by rw [HSUM.out]; exact mark_same q.sum HQ.out.s W
  have hu1 := Tryd.underlying88
  have hi1 : (Tryd.prog.info? 88).map (·.size) = some (bv q.sum).length := by rw [bv_length, HQ.out.s]; kernel_rfl
  have hi2 : (Tryd.prog.info? 88).map (·.size) = some (bv z.e.sum).length := by rw [bv_length, HPC5.out.hs]; kernel_rfl
  refine wp_region_noPanic ?_
  refine wp_region_held_drew (S := fun w' => AD w w' G t most B Z xb nb q (.slice a1 q.cont.length c1) p ∧ PcAt w' G z.pb z.ab z.e.sum z.e.parts) (by kernel_rfl) (⟨HAD5.out.drew, HPC5.out.kp0 ((Kp.refl [] W5).drew)⟩) (fun hHeld => ?_)
  clear HAD5 HPC5
  generalize W5.drew = W6 at *
  refine wpAnyH_take (i := 0) (oi := { dst := some 61, op := Op.move (Operand.tmp 11), type := 106, pos := "parcel.go:158", after := #[], guard := none }) (v := .pointer (some ⟨z.pb, 0, none⟩)) rfl (by kernel_rfl) (by kernel_rfl) (by kernel_rfl) (fun _ _ _ h => h) (Or.inl ⟨by rfl, by intro w hSw; (try dsimp only at hSw); go_simp⟩) (by assumption) ?_
  try simp only [Act.put, List.setIfInBounds_toArray, List.set_cons_zero, List.set_cons_succ]
  refine wpAnyH_take (i := 1) (oi := { dst := some 62, op := Op.nilCheck (Operand.tmp 61), type := 0, pos := "parcel.go:158", after := #[{ on := 0, ground := Ground.data }], guard := none }) (v := .pointer (some ⟨z.pb, 0, none⟩)) rfl (by kernel_rfl) (by kernel_rfl) (by kernel_rfl) (fun _ _ _ h => h) (Or.inl ⟨by rfl, by intro w hSw; (try dsimp only at hSw); go_simp⟩) (by assumption) ?_
  try simp only [Act.put, List.setIfInBounds_toArray, List.set_cons_zero, List.set_cons_succ]
  refine wpAnyH_take (i := 2) (oi := { dst := some 63, op := Op.fieldAddr 109 (Operand.tmp 62) 1, type := 0, pos := "parcel.go:158", after := #[{ on := 1, ground := Ground.data }], guard := none }) (v := .pointer (some ⟨z.pb, 8, none⟩)) rfl (by kernel_rfl) (by kernel_rfl) (by kernel_rfl) (fun _ _ _ h => h) (Or.inl ⟨by rfl, by intro w hSw; (try dsimp only at hSw); go_simp⟩) (by assumption) ?_
  try simp only [Act.put, List.setIfInBounds_toArray, List.set_cons_zero, List.set_cons_succ]
  refine wpAnyH_take (i := 3) (oi := { dst := some 64, op := Op.load 107 (Operand.tmp 63), type := 107, pos := "parcel.go:158", after := #[{ on := 2, ground := Ground.data }], guard := none }) (v := .slice (some ⟨z.ab, 0, none⟩) z.e.parts.length z.e.parts.length) rfl (by kernel_rfl) (by kernel_rfl) (by kernel_rfl) (fun _ _ _ h => h) (Or.inl ⟨by rfl, by intro w hSw; (try dsimp only at hSw); have hcx := hSw.2.c8; go_simp⟩) (by assumption) ?_
  try simp only [Act.put, List.setIfInBounds_toArray, List.set_cons_zero, List.set_cons_succ]
  refine wpAnyH_take (i := 4) (oi := { dst := some 65, op := Op.call { callee := Callee.builtin Builtin.len, args := #[Operand.tmp 64], argTypes := #[107] }, type := 3, pos := "parcel.go:158", after := #[{ on := 3, ground := Ground.data }], guard := none }) (v := .int .i64 (z.e.parts.length : Int)) rfl (by kernel_rfl) (by kernel_rfl) (by kernel_rfl) (fun _ _ _ h => h) (Or.inl ⟨by rfl, by intro w hSw; (try dsimp only at hSw); go_simp⟩) (by assumption) ?_
  try simp only [Act.put, List.setIfInBounds_toArray, List.set_cons_zero, List.set_cons_succ]
  refine wpAnyH_take (i := 5) (oi := { dst := some 66, op := Op.fieldAddr 101 (Operand.tmp 9) 1, type := 0, pos := "parcel.go:158", after := #[], guard := none }) (v := .pointer (some ⟨xb, 1, none⟩)) rfl (by kernel_rfl) (by kernel_rfl) (by kernel_rfl) (fun _ _ _ h => h) (Or.inl ⟨by rfl, by intro w hSw; (try dsimp only at hSw); go_simp⟩) (by assumption) ?_
  try simp only [Act.put, List.setIfInBounds_toArray, List.set_cons_zero, List.set_cons_succ]
  refine wpAnyH_take (i := 6) (oi := { dst := some 67, op := Op.load 3 (Operand.tmp 66), type := 3, pos := "parcel.go:158", after := #[{ on := 5, ground := Ground.data }], guard := none }) (v := .int .i64 q.cnt) rfl (by kernel_rfl) (by kernel_rfl) (by kernel_rfl) (fun _ _ _ h => h) (Or.inl ⟨by rfl, by intro w hSw; (try dsimp only at hSw); have hcx := hSw.1.c0.2.2.2.2.2.1; go_simp⟩) (by assumption) ?_
  try simp only [Act.put, List.setIfInBounds_toArray, List.set_cons_zero, List.set_cons_succ]
  refine wpAnyH_take (i := 7) (oi := { dst := some 68, op := Op.binOp BinOp.neq 3 (Operand.tmp 65) (Operand.tmp 67) 3, type := 4, pos := "parcel.go:158", after := #[{ on := 4, ground := Ground.data }, { on := 6, ground := Ground.data }], guard := none }) (v := .bool false) rfl (by kernel_rfl) (by kernel_rfl) (by kernel_rfl) (fun _ _ _ h => h) (Or.inl ⟨by rfl, by intro w hSw; (try dsimp only at hSw); go_simp⟩) (by assumption) ?_
  try simp only [Act.put, List.setIfInBounds_toArray, List.set_cons_zero, List.set_cons_succ]
  refine wpAnyH_take (i := 8) (oi := { dst := some 69, op := Op.move (Operand.tmp 68), type := 4, pos := "parcel.go:158", after := #[{ on := 7, ground := Ground.data }], guard := none }) (v := .bool false) rfl (by kernel_rfl) (by kernel_rfl) (by kernel_rfl) (fun _ _ _ h => h) (Or.inl ⟨by rfl, by intro w hSw; (try dsimp only at hSw); go_simp⟩) (by assumption) ?_
  try simp only [Act.put, List.setIfInBounds_toArray, List.set_cons_zero, List.set_cons_succ]
  refine wpAnyH_take (i := 9) (oi := { dst := some 70, op := Op.move (Operand.tmp 11), type := 106, pos := "parcel.go:158", after := #[{ on := 8, ground := Ground.guard }], guard := some (8, false) }) (v := .pointer (some ⟨z.pb, 0, none⟩)) rfl (by kernel_rfl) (by kernel_rfl) (by kernel_rfl) (fun _ _ _ h => h) (Or.inl ⟨by rfl, by intro w hSw; (try dsimp only at hSw); go_simp⟩) (by assumption) ?_
  try simp only [Act.put, List.setIfInBounds_toArray, List.set_cons_zero, List.set_cons_succ]
  refine wpAnyH_take (i := 10) (oi := { dst := some 71, op := Op.nilCheck (Operand.tmp 70), type := 0, pos := "parcel.go:158", after := #[{ on := 9, ground := Ground.data }, { on := 8, ground := Ground.guard }], guard := some (8, false) }) (v := .pointer (some ⟨z.pb, 0, none⟩)) rfl (by kernel_rfl) (by kernel_rfl) (by kernel_rfl) (fun _ _ _ h => h) (Or.inl ⟨by rfl, by intro w hSw; (try dsimp only at hSw); go_simp⟩) (by assumption) ?_
  try simp only [Act.put, List.setIfInBounds_toArray, List.set_cons_zero, List.set_cons_succ]
  refine wpAnyH_take (i := 11) (oi := { dst := some 72, op := Op.fieldAddr 109 (Operand.tmp 71) 0, type := 0, pos := "parcel.go:158", after := #[{ on := 10, ground := Ground.data }, { on := 8, ground := Ground.guard }], guard := some (8, false) }) (v := .pointer (some ⟨z.pb, 0, none⟩)) rfl (by kernel_rfl) (by kernel_rfl) (by kernel_rfl) (fun _ _ _ h => h) (Or.inl ⟨by rfl, by intro w hSw; (try dsimp only at hSw); go_simp⟩) (by assumption) ?_
  try simp only [Act.put, List.setIfInBounds_toArray, List.set_cons_zero, List.set_cons_succ]
  refine wpAnyH_take (i := 12) (oi := { dst := some 73, op := Op.load 88 (Operand.tmp 72), type := 88, pos := "parcel.go:158", after := #[{ on := 11, ground := Ground.data }, { on := 8, ground := Ground.guard }], guard := some (8, false) }) (v := .agg (bv z.e.sum).toArray) rfl (by kernel_rfl) (by kernel_rfl) (by kernel_rfl) (fun _ _ _ h => h) (yieldsIf_load_mid (by rfl) 88 (.tmp 72) (by rfl) z.pb 0 (by rfl) (bv z.e.sum) _ (fun w h => h.2.range) hu1 rfl hi2) (by assumption) ?_
  try simp only [Act.put, List.setIfInBounds_toArray, List.set_cons_zero, List.set_cons_succ]
  refine wpAnyH_take (i := 13) (oi := { dst := some 74, op := Op.fieldAddr 101 (Operand.tmp 9) 3, type := 0, pos := "parcel.go:158", after := #[{ on := 8, ground := Ground.guard }], guard := some (8, false) }) (v := .pointer (some ⟨xb, 3, none⟩)) rfl (by kernel_rfl) (by kernel_rfl) (by kernel_rfl) (fun _ _ _ h => h) (Or.inl ⟨by rfl, by intro w hSw; (try dsimp only at hSw); go_simp⟩) (by assumption) ?_
  try simp only [Act.put, List.setIfInBounds_toArray, List.set_cons_zero, List.set_cons_succ]
  refine wpAnyH_take (i := 14) (oi := { dst := some 75, op := Op.load 88 (Operand.tmp 74), type := 88, pos := "parcel.go:158", after := #[{ on := 13, ground := Ground.data }, { on := 8, ground := Ground.guard }], guard := some (8, false) }) (v := .agg (bv q.sum).toArray) rfl (by kernel_rfl) (by kernel_rfl) (by kernel_rfl) (fun _ _ _ h => h) (yieldsIf_load_mid (by rfl) 88 (.tmp 74) (by rfl) xb 3 (by rfl) (bv q.sum) _ (fun w h => h.1.x.range) hu1 rfl hi1) (by assumption) ?_
  try simp only [Act.put, List.setIfInBounds_toArray, List.set_cons_zero, List.set_cons_succ]
  refine wpAnyH_take (i := 15) (oi := { dst := some 76, op := Op.binOp BinOp.neq 88 (Operand.tmp 73) (Operand.tmp 75) 88, type := 4, pos := "parcel.go:158", after := #[{ on := 12, ground := Ground.data }, { on := 14, ground := Ground.data }, { on := 8, ground := Ground.guard }], guard := some (8, false) }) (v := .bool false) rfl (by kernel_rfl) (by kernel_rfl) (by kernel_rfl) (fun _ _ _ h => h) (Or.inl ⟨by rfl, by intro w hSw; (try dsimp only at hSw); go_simp⟩) (by assumption) ?_
  try simp only [Act.put, List.setIfInBounds_toArray, List.set_cons_zero, List.set_cons_succ]
  refine wpAnyH_take (i := 16) (oi := { dst := some 77, op := Op.pick (Operand.tmp 69) (Operand.const (Value.bool true)) (Operand.tmp 76), type := 4, pos := "parcel.go:158", after := #[{ on := 8, ground := Ground.data }, { on := 15, ground := Ground.data }], guard := none }) (v := .bool false) rfl (by kernel_rfl) (by kernel_rfl) (by kernel_rfl) (fun _ _ _ h => h) (Or.inl ⟨by rfl, by intro w hSw; (try dsimp only at hSw); go_simp⟩) (by assumption) ?_
  try simp only [Act.put, List.setIfInBounds_toArray, List.set_cons_zero, List.set_cons_succ]
  refine wpAnyH_take (i := 17) (oi := { dst := some 60, op := Op.assign (Operand.tmp 77), type := 4, pos := "parcel.go:158", after := #[{ on := 16, ground := Ground.data }, { on := 8, ground := Ground.chain }], guard := none }) (v := .bool false) rfl (by kernel_rfl) (by kernel_rfl) (by kernel_rfl) (fun _ _ _ h => h) (Or.inl ⟨by rfl, by intro w hSw; (try dsimp only at hSw); go_simp⟩) (by assumption) ?_
  try simp only [Act.put, List.setIfInBounds_toArray, List.set_cons_zero, List.set_cons_succ]
  refine wpAnyH_done (by kernel_rfl) ?_ _
  refine NoPanic.normal ?_
  have HAD6 := Lib.hid hHeld.1
  have HPC6 := Lib.hid hHeld.2
  clear hHeld hne hcb
  obtain ⟨ct0, ct1, cn0, cn1, cx0, cx1, cx2⟩ := HAD6.out.c0
  have c8' := HPC6.out.c8
  have hi0 := HQ.out.i0
  have HIL : Hid (q.idx < (z.e.parts.length : Int)) := Lib.hid (by rw [HCNT.out]; exact HQ.out.i1)
  have hil := HIL.out
  have hcn := HPC6.out.hole HIX.out
  go_wp2_with fail
  go_quiet (fail)
  have HAD7 := Lib.hid (HAD6.out.kp ((Kp.refl [] W6).drewN nq))
  have HPC7 := Lib.hid (HPC6.out.kp (G := Gn G w z.ab) ((Kp.refl [] W6).drewN nq) (by simp) (by simp) (fun _ hb => .inl hb))
  clear ct0 ct1 cn0 cn1 cx0 cx1 cx2 c8' hi0 hil hcn HAD6 HPC6
  generalize W6.drewN nq = W7 at *
  have HIXL : Hid (q.idx.toNat < z.e.parts.length) := Lib.hid (List.getElem?_eq_some_iff.1 HIX.out).1
  have HGA : Hid (¬ G z.ab) := Lib.hid (HZ0.out.ga z HZM.out)
  have HAL : Hid (z.ab < w.heap.size) := Lib.hid (HZ0.out.p z HZM.out).lt
  have hmb : (((nv (missL z.e.parts)).length : Int) == 1) = true := by rw [nv_len]; rw [HW.out]; rfl
  have HMI : Hid (Calls Tryd.prog 51 #[.pointer (some ⟨z.pb, 0, none⟩)] W7 fun e w' => ∃ v, e = .returned v ∧ Own w' W7.heap.size 3 v (nv (missL z.e.parts)) ∧ Kp [] W7 w') := Lib.hid (missing_any _ _ _ _ _ _ HPC7.out)
  go_wp2_with (first
    | (go_at_call 51; go_must (refine HMI.out.mono ?_; rintro e w8 ⟨v8, rfl, ho8, hk8⟩; obtain ⟨a8, c8, rfl⟩ := ho8.rd.form; have HAD8 := Lib.hid (HAD7.out.kp hk8); have HPC8 := Lib.hid (HPC7.out.kp0 hk8); clear ho8 hk8))
    | fail)
  clear HAD7 HPC7 HMI
  have HTX : Hid (∀ W, PcAt W (Gn G w z.ab) z.pb z.ab z.e.sum z.e.parts → PartAt W xb q (.slice a1 q.cont.length c1) → Calls Tryd.prog 52 #[.pointer (some ⟨z.pb, 0, none⟩), .pointer (some ⟨xb, 0, none⟩)] W fun e w' => ∃ v, e = .returned v ∧ Cut w' W.heap.size v (textL (z.e.parts.set q.idx.toNat (some q.cont))) ∧ Kp [] W w') := Lib.hid (fun W h1 h2 => text_with _ _ _ _ _ xb q (.slice a1 q.cont.length c1) q.idx.toNat W h1 h2 (by have := HQ.out.i0; omega) (miss_one HW.out HIX.out))
  have HTL : Hid ((textL (z.e.parts.set q.idx.toNat (some q.cont))).length ≤ 562949953421312) := Lib.hid (by have h1 := textL_len (z.e.parts.set q.idx.toNat (some q.cont)) (fun c hc => by rcases List.mem_or_eq_of_mem_set hc with hc | hc; exact HPC8.out.short c hc; cases hc; exact HQ.out.l); have h2 := HPC8.out.hn.2; rw [List.length_set] at h1; omega)
  have HSL : Hid (z.e.sum.length = 8) := Lib.hid HPC8.out.hs
  have HMN := Lib.hid (HML.out (textL (z.e.parts.set q.idx.toNat (some q.cont))))
  have hne := fun W => mark_other (mk (textL (z.e.parts.set q.idx.toNat (some q.cont)))) z.e.sum HMN.out HSL.out HS.out W
  have hu1 := Tryd.underlying88
  have hi1 : (Tryd.prog.info? 88).map (·.size) = some (bv z.e.sum).length := by rw [bv_length, HSL.out]; kernel_rfl
  refine wp_region_noPanic ?_
  refine wp_region_held_drew (S := fun w' => AD w w' G t most B Z xb nb q (.slice a1 q.cont.length c1) p ∧ PcAt w' (Gn G w z.ab) z.pb z.ab z.e.sum z.e.parts) (by kernel_rfl) (⟨HAD8.out.drew, HPC8.out.kp0 ((Kp.refl [] w8).drew)⟩) (fun hHeld => ?_)
  clear hmb
  refine wpAnyH_take (i := 0) (oi := { dst := some 92, op := Op.move (Operand.tmp 7), type := 4, pos := "parcel.go:164", after := #[], guard := none }) (v := .bool true) rfl (by kernel_rfl) (by kernel_rfl) (by kernel_rfl) (fun _ _ _ h => h) (Or.inl ⟨by rfl, by intro w hSw; (try dsimp only at hSw); go_simp⟩) (by assumption) ?_
  try simp only [Act.put, List.setIfInBounds_toArray, List.set_cons_zero, List.set_cons_succ]
  refine wpAnyH_take (i := 1) (oi := { dst := some 93, op := Op.move (Operand.tmp 92), type := 4, pos := "parcel.go:164", after := #[{ on := 0, ground := Ground.data }], guard := none }) (v := .bool true) rfl (by kernel_rfl) (by kernel_rfl) (by kernel_rfl) (fun _ _ _ h => h) (Or.inl ⟨by rfl, by intro w hSw; (try dsimp only at hSw); go_simp⟩) (by assumption) ?_
  try simp only [Act.put, List.setIfInBounds_toArray, List.set_cons_zero, List.set_cons_succ]
  refine wpAnyH_take (i := 2) (oi := { dst := some 94, op := Op.move (Operand.tmp 11), type := 106, pos := "parcel.go:164", after := #[{ on := 1, ground := Ground.guard }], guard := some (1, true) }) (v := .pointer (some ⟨z.pb, 0, none⟩)) rfl (by kernel_rfl) (by kernel_rfl) (by kernel_rfl) (fun _ _ _ h => h) (Or.inl ⟨by rfl, by intro w hSw; (try dsimp only at hSw); go_simp⟩) (by assumption) ?_
  try simp only [Act.put, List.setIfInBounds_toArray, List.set_cons_zero, List.set_cons_succ]
  refine wpAnyH_take (i := 5) (oi := { dst := some 97, op := Op.move (Operand.tmp 11), type := 106, pos := "parcel.go:164", after := #[{ on := 1, ground := Ground.guard }], guard := some (1, true) }) (v := .pointer (some ⟨z.pb, 0, none⟩)) rfl (by kernel_rfl) (by kernel_rfl) (by kernel_rfl) (fun _ _ _ h => h) (Or.inl ⟨by rfl, by intro w hSw; (try dsimp only at hSw); go_simp⟩) (by assumption) ?_
  try simp only [Act.put, List.setIfInBounds_toArray, List.set_cons_zero, List.set_cons_succ]
  refine wpAnyH_take (i := 6) (oi := { dst := some 98, op := Op.nilCheck (Operand.tmp 97), type := 0, pos := "parcel.go:164", after := #[{ on := 5, ground := Ground.data }, { on := 1, ground := Ground.guard }], guard := some (1, true) }) (v := .pointer (some ⟨z.pb, 0, none⟩)) rfl (by kernel_rfl) (by kernel_rfl) (by kernel_rfl) (fun _ _ _ h => h) (Or.inl ⟨by rfl, by intro w hSw; (try dsimp only at hSw); go_simp⟩) (by assumption) ?_
  try simp only [Act.put, List.setIfInBounds_toArray, List.set_cons_zero, List.set_cons_succ]
  refine wpAnyH_take (i := 7) (oi := { dst := some 99, op := Op.fieldAddr 109 (Operand.tmp 98) 0, type := 0, pos := "parcel.go:164", after := #[{ on := 6, ground := Ground.data }, { on := 1, ground := Ground.guard }], guard := some (1, true) }) (v := .pointer (some ⟨z.pb, 0, none⟩)) rfl (by kernel_rfl) (by kernel_rfl) (by kernel_rfl) (fun _ _ _ h => h) (Or.inl ⟨by rfl, by intro w hSw; (try dsimp only at hSw); go_simp⟩) (by assumption) ?_
  try simp only [Act.put, List.setIfInBounds_toArray, List.set_cons_zero, List.set_cons_succ]
  refine wpAnyH_take (i := 8) (oi := { dst := some 100, op := Op.load 88 (Operand.tmp 99), type := 88, pos := "parcel.go:164", after := #[{ on := 7, ground := Ground.data }, { on := 1, ground := Ground.guard }], guard := some (1, true) }) (v := .agg (bv z.e.sum).toArray) rfl (by kernel_rfl) (by kernel_rfl) (by kernel_rfl) (fun _ _ _ h => h) (yieldsIf_load_mid (by rfl) 88 (.tmp 99) (by rfl) z.pb 0 (by rfl) (bv z.e.sum) _ (fun w h => h.2.range) hu1 rfl hi1) (by assumption) ?_
  try simp only [Act.put, List.setIfInBounds_toArray, List.set_cons_zero, List.set_cons_succ]
  refine wpAnyH_ready (rs := [3]) (by kernel_rfl) (by simp) ?_
  refine AllReadyH.cons (o := { dst := some 95, op := Op.call { callee := Callee.value (Operand.func 52), args := #[Operand.tmp 94, Operand.tmp 9], argTypes := #[106, 110] }, type := 27, pos := "parcel.go:164", after := #[{ on := 2, ground := Ground.data }, { on := 1, ground := Ground.chain }, { on := 1, ground := Ground.guard }], guard := some (1, true) }) rfl (fun K' hK => ?_) AllReadyH.nil
  go_simp
  refine (HTX.out _ hHeld.2 hHeld.1.x).mono ?_
  rintro e w4 ⟨v4, rfl, hcu4, hk4⟩
  have HCU := Lib.hid hcu4
  have hm4 : AD w w4 G t most B Z xb nb q (.slice a1 q.cont.length c1) p ∧ PcAt w4 (Gn G w z.ab) z.pb z.ab z.e.sum z.e.parts := ⟨hHeld.1.kp hk4, hHeld.2.kp0 hk4⟩
  clear hk4 hHeld hcu4
  (try go_simp)
  refine hK.out _ _ (hm4) (fun hHeld => ?_)
  clear hK K'
  try simp only [Act.put, List.setIfInBounds_toArray, List.set_cons_zero, List.set_cons_succ]
  refine wpAnyH_ready (rs := [4]) (by kernel_rfl) (by simp) ?_
  refine AllReadyH.cons (o := { dst := some 96, op := Op.call { callee := Callee.value (Operand.func 43), args := #[Operand.tmp 95], argTypes := #[27] }, type := 88, pos := "parcel.go:164", after := #[{ on := 3, ground := Ground.data }, { on := 3, ground := Ground.chain }, { on := 1, ground := Ground.guard }], guard := some (1, true) }) rfl (fun K' hK => ?_) AllReadyH.nil
  go_simp
  refine (HTB.out w4 v4 _ hm4.1.k HCU.out.rd HTL.out).mono ?_
  rintro e w5 ⟨rfl, hk5⟩
  have hm5 : AD w w5 G t most B Z xb nb q (.slice a1 q.cont.length c1) p ∧ PcAt w5 (Gn G w z.ab) z.pb z.ab z.e.sum z.e.parts := ⟨hm4.1.kp hk5, hm4.2.kp0 hk5⟩
  clear hk5 hm4 HCU hHeld
  (try go_simp)
  refine hK.out _ _ (hm5) (fun hHeld => ?_)
  clear hK K'
  try simp only [Act.put, List.setIfInBounds_toArray, List.set_cons_zero, List.set_cons_succ]
  refine wpAnyH_take (i := 9) (oi := { dst := some 101, op := Op.binOp BinOp.neq 88 (Operand.tmp 96) (Operand.tmp 100) 88, type := 4, pos := "parcel.go:164", after := #[{ on := 4, ground := Ground.data }, { on := 8, ground := Ground.data }, { on := 1, ground := Ground.guard }], guard := some (1, true) }) (v := .bool true) rfl (by kernel_rfl) (by kernel_rfl) (by kernel_rfl) (fun _ _ _ h => h) (Or.inl ⟨by rfl, by intro w hSw; (try dsimp only at hSw); go_simp⟩) (by assumption) ?_
  try simp only [Act.put, List.setIfInBounds_toArray, List.set_cons_zero, List.set_cons_succ]
  refine wpAnyH_take (i := 10) (oi := { dst := some 102, op := Op.pick (Operand.tmp 93) (Operand.tmp 101) (Operand.const (Value.bool false)), type := 4, pos := "parcel.go:164", after := #[{ on := 1, ground := Ground.data }, { on := 9, ground := Ground.data }], guard := none }) (v := .bool true) rfl (by kernel_rfl) (by kernel_rfl) (by kernel_rfl) (fun _ _ _ h => h) (Or.inl ⟨by rfl, by intro w hSw; (try dsimp only at hSw); go_simp⟩) (by assumption) ?_
  try simp only [Act.put, List.setIfInBounds_toArray, List.set_cons_zero, List.set_cons_succ]
  refine wpAnyH_done (by kernel_rfl) ?_ _
  refine NoPanic.normal ?_
  have HK := Lib.hid hHeld.1.k
  clear hHeld hm5
  go_wp2_with fail
  go_ret3
  exact ⟨rfl, HK.out⟩
end Go.Proofs.YtkceaepbjdfccaaDoor
