/-
(*parcel.Tray).Add: the walks.
-/
import Derived.Test.YtkceaepbjdfccaaDoorPar12
namespace Go.Proofs.YtkceaepbjdfccaaDoor
open Go.RowKit
set_option maxRecDepth 100000 in
set_option maxHeartbeats 2000000 in
theorem add_new_part (mk : List UInt8 → List UInt8) (w : World) (G : Nat → Prop) (t : Nat) (most : Int) (B : Nat) (Z : List Zt) (p : List UInt8) (v : Value) (q : Prt) (h : AH mk w G t most B Z p v q) (hz : findZ Z (p, q.id) = none) (hf : (Z.length : Int) < most) (hw : (missL (List.replicate q.cnt.toNat none)).length ≠ 1) : Calls Tryd.prog 26 #[.pointer (some ⟨t, 0, none⟩), .string (strOf p), v] w fun e w' => e = .returned (.tuple #[.int .u32 q.id, .bool false, .int .i64 0]) ∧ ∃ pb ab, w.heap.size ≤ ab ∧ TRz w' (Gn G w ab) t most B (Z ++ [⟨⟨p, q.id, q.sum, (List.replicate q.cnt.toNat none).set q.idx.toNat (some q.cont)⟩, pb, ab⟩]) ∧ Kp [B] w w' := by
  generalize hn' : q.cnt.toNat = n at *
  have HW := Lib.hid hw
  clear hw
  have HW0 : Hid (∀ i, i < n → (List.replicate n (none : Option (List UInt8)))[i]? = some none) := Lib.hid (fun i hi => by rw [List.getElem?_replicate, if_pos hi])
  have HN := Lib.hid h.hn
  have HRD := Lib.hid h.hr
  have HZ0 := Lib.hid h.z
  have HQ := Lib.hid h.qo
  have HKO := Lib.hid h.ko
  have HTB := Lib.hid h.mc
  have HML := Lib.hid h.ml
  have HGL := Lib.hid h.gl
  have HLK : Hid (∀ W, TRz W G t most B Z → (Instr.lookup 97 (.map (some B)) (.agg #[.string (strOf p), .int .u32 q.id]) false).run Tryd.prog W = .ok (.pointer none) W) := Lib.hid (fun W hW => by have := hW.m.lookup (k := (p, q.id)) h.ko; rw [lookK_Zk, hz] at this; exact this)
  clear h
  go_enter Tryd.func26, Tryd.ntmps26
  go_wp2_with (first
    | (go_at_call 49; go_must (refine HN.out.mono ?_; rintro e w1 ⟨rfl, rfl⟩))
    | (go_at_call 50; go_must (refine HRD.out.mono ?_; rintro e w1 ⟨a1, c1, rfl, ho1, hk1⟩; have HO1 := Lib.hid ho1; have HK1 := Lib.hid hk1; clear ho1 hk1))
    | ((with_reducible show wpList _ _ _ ({ dst := none, op := Op.store _ (.tmp 9) (.tmp 20), type := _, pos := _, after := _, guard := _ } :: _) _ _); go_must ((with_reducible refine wpList_store_row ?b1 101 (.tmp 9) (.tmp 20) ?b2 w1.heap.size (pcl q.id q.cnt q.idx q.sum (.slice a1 q.cont.length c1)).toArray ?b3 ?b4 101 (pcl 0 0 0 s8 (.slice none 0 0)).toArray ?b5 ?b6 ?b7 ?b8 ?b9); (case b1 => rfl); (case b2 => rfl); (case b3 => rfl); (case b4 => rfl); (case b5 => exact heap_alloc_new w1 _); (case b6 => (rw [List.size_toArray, pcl_len _ _ _ _ _ HQ.out.s]; kernel_rfl)); (case b7 => (rw [List.size_toArray, List.size_toArray, pcl_len _ _ _ _ _ HQ.out.s]; rfl)); (case b8 => exact all_oneCell_toArray (pcl_one _ _ _ _ a1 (_, _))); change wpList _ _ _ _ _ ((w1.alloc (.cells (pcl 0 0 0 s8 (.slice none 0 0)).toArray 101)).setRow w1.heap.size (pcl q.id q.cnt q.idx q.sum (.slice a1 q.cont.length c1)).toArray); have HAD := Lib.hid (ad_start (p := p) (O := (pcl 0 0 0 s8 (.slice none 0 0)).toArray) HZ0.out HQ.out HK1.out HO1.out (W2 := (w1.alloc (.cells (pcl 0 0 0 s8 (.slice none 0 0)).toArray 101)).setRow w1.heap.size (pcl q.id q.cnt q.idx q.sum (.slice a1 q.cont.length c1)).toArray) rfl); have c0 : ((w1.alloc (.cells (pcl 0 0 0 s8 (.slice none 0 0)).toArray 101)).setRow w1.heap.size (pcl q.id q.cnt q.idx q.sum (.slice a1 q.cont.length c1)).toArray).cell? ⟨w1.heap.size, 0, none⟩ = some (.int .u32 q.id) := (by rw [cell_of_row _ w1.heap.size 0 _ _ _ (setRow_heap _ _ _ _ _ _ (heap_alloc_new w1 _))]; rfl); generalize (w1.alloc (.cells (pcl 0 0 0 s8 (.slice none 0 0)).toArray 101)).setRow w1.heap.size (pcl q.id q.cnt q.idx q.sum (.slice a1 q.cont.length c1)).toArray = W2 at *))
    | fail)
  generalize w1.heap.size = xb at *
  generalize W2.heap.size = nb at *
  generalize W2.alloc (.cells #[.string (strOf p), .int .u32 q.id] 105) = W3 at *
  clear c0 HO1 HK1
  obtain ⟨ct0, ct1, cn0, cn1, cx0, cx1, cx2⟩ := HAD.out.c0
  have hlk : ∀ n, (Instr.lookup 97 (.map (some B)) (.agg #[.string (strOf p), .int .u32 q.id]) false).run Tryd.prog (W3.drewN n) = .ok (.pointer none) (W3.drewN n) := fun n => HLK.out _ (HAD.out.z.kp0 ((Kp.refl [] W3).drewN n))
  go_quiet (fail)
  have HAD4 := Lib.hid (HAD.out.kp ((Kp.refl [] W3).drewN nq))
  clear hlk HAD HLK ct0 ct1 cn0 cn1 cx0 cx1 cx2
  generalize W3.drewN nq = W4 at *
  obtain ⟨ct0, ct1, cn0, cn1, cx0, cx1, cx2⟩ := HAD4.out.c0
  have hlen : ∀ n ty, (Builtin.len_ #[97] ty #[.map (some B)]).run Tryd.prog (W4.drewN n) = .ok (.int .i64 (Zk Z).length) (W4.drewN n) := fun n ty => (HAD4.out.z.kp0 ((Kp.refl [] W4).drewN n)).m.len ty
  have hfl : ((Zk Z).length : Int) < most := by unfold Zk; rw [List.length_map]; exact hf
  have HF := Lib.hid hf
  have HZN := Lib.hid hz
  clear hf hz
  go_wp2_with fail
  go_quiet (fail)
  go_wp2_with fail
  have HAD5 := Lib.hid (HAD4.out.kp ((Kp.refl [] W4).drewN nq))
  clear HAD4 hlen hfl ct0 ct1 cn0 cn1 cx0 cx1 cx2
  generalize W4.drewN nq = W5 at *
  have hn : q.cnt = (n : Int) := (by have := HQ.out.c1; omega)
  have HN1 : Hid (1 ≤ n ∧ n ≤ 64 ∧ q.idx.toNat < n ∧ q.idx < (n : Int)) := Lib.hid (by have := HQ.out.c1; have := HQ.out.c2; have := HQ.out.i1; have := HQ.out.i0; omega)
  have hmk : ∀ W, (Instr.makeSlice 107 (.int .i64 q.cnt) (.int .i64 q.cnt)).run Tryd.prog W = .ok (.slice (some ⟨W.heap.size, 0, none⟩) n n) (W.alloc (.cells (List.replicate n (Value.pointer none)).toArray 110)) := by intro W; rw [hn]; exact run_mk_parts W n HN1.out.2.1
  clear hn'
  clear hn
  have hbd := fun W a => run_build_parcel W q.sum HQ.out.s a n n
  have hu1 := Tryd.underlying88
  have hi1 : (Tryd.prog.info? 88).map (·.size) = some (bv q.sum).length := by rw [bv_length, HQ.out.s]; kernel_rfl
  refine wp_region_noPanic ?_
  refine wp_region_held_drew (S := fun w' => AD w w' G t most B Z xb nb q (.slice a1 q.cont.length c1) p) (by kernel_rfl) (HAD5.out.drew) (fun hHeld => ?_)
  have hHeld0 := HAD5.out.drew
  generalize W5.drew = W6 at *
  have HADX := Lib.hid hHeld0
  clear hHeld0 HAD5
  refine wpAnyH_take (i := 0) (oi := { dst := some 53, op := Op.fieldAddr 101 (Operand.tmp 9) 3, type := 0, pos := "parcel.go:157", after := #[], guard := none }) (v := .pointer (some ⟨xb, 3, none⟩)) rfl (by kernel_rfl) (by kernel_rfl) (by kernel_rfl) (fun _ _ _ h => h) (Or.inl ⟨by rfl, by intro w hSw; (try dsimp only at hSw); go_simp⟩) (by assumption) ?_
  try simp only [Act.put, List.setIfInBounds_toArray, List.set_cons_zero, List.set_cons_succ]
  refine wpAnyH_take (i := 1) (oi := { dst := some 54, op := Op.load 88 (Operand.tmp 53), type := 88, pos := "parcel.go:157", after := #[{ on := 0, ground := Ground.data }], guard := none }) (v := .agg (bv q.sum).toArray) rfl (by kernel_rfl) (by kernel_rfl) (by kernel_rfl) (fun _ _ _ h => h) (yieldsIf_load_mid (by rfl) 88 (.tmp 53) (by rfl) xb 3 (by rfl) (bv q.sum) _ (fun w h => h.x.range) hu1 rfl hi1) (by assumption) ?_
  try simp only [Act.put, List.setIfInBounds_toArray, List.set_cons_zero, List.set_cons_succ]
  refine wpAnyH_take (i := 2) (oi := { dst := some 55, op := Op.fieldAddr 101 (Operand.tmp 9) 1, type := 0, pos := "parcel.go:157", after := #[], guard := none }) (v := .pointer (some ⟨xb, 1, none⟩)) rfl (by kernel_rfl) (by kernel_rfl) (by kernel_rfl) (fun _ _ _ h => h) (Or.inl ⟨by rfl, by intro w hSw; (try dsimp only at hSw); go_simp⟩) (by assumption) ?_
  try simp only [Act.put, List.setIfInBounds_toArray, List.set_cons_zero, List.set_cons_succ]
  refine wpAnyH_take (i := 3) (oi := { dst := some 56, op := Op.load 3 (Operand.tmp 55), type := 3, pos := "parcel.go:157", after := #[{ on := 2, ground := Ground.data }], guard := none }) (v := .int .i64 q.cnt) rfl (by kernel_rfl) (by kernel_rfl) (by kernel_rfl) (fun _ _ _ h => h) (Or.inl ⟨by rfl, by intro w hSw; (try dsimp only at hSw); have hcx := hSw.c0.2.2.2.2.2.1; go_simp⟩) (by assumption) ?_
  try simp only [Act.put, List.setIfInBounds_toArray, List.set_cons_zero, List.set_cons_succ]
  refine wpAnyH_ready (rs := [4]) (by kernel_rfl) (by simp) ?_
  refine AllReadyH.cons (o := { dst := some 57, op := Op.makeSlice 107 (Operand.tmp 56) (Operand.tmp 56), type := 107, pos := "parcel.go:157", after := #[{ on := 3, ground := Ground.data }, { on := 3, ground := Ground.data }], guard := none }) rfl (fun K' hK => ?_) AllReadyH.nil
  go_simp
  (try go_simp)
  refine hK.out _ _ (hHeld.kp ((Kp.refl [] _).alloc _)) (fun hHeld => ?_)
  clear hK K'
  try simp only [Act.put, List.setIfInBounds_toArray, List.set_cons_zero, List.set_cons_succ]
  refine wpAnyH_take (i := 5) (oi := { dst := some 58, op := Op.build 109 #[(0, Operand.tmp 54), (1, Operand.tmp 57)], type := 109, pos := "parcel.go:157", after := #[{ on := 1, ground := Ground.data }, { on := 4, ground := Ground.data }], guard := none }) (v := .agg (bv q.sum ++ [Value.slice (some ⟨W6.heap.size, 0, none⟩) n n]).toArray) rfl (by kernel_rfl) (by kernel_rfl) (by kernel_rfl) (fun _ _ _ h => h) (Or.inl ⟨by rfl, by intro w hSw; refine exec_build (by rfl) ?_; simp only [List.map_toArray, List.map_cons, List.map_nil]; exact hbd w _⟩) (by assumption) ?_
  try simp only [Act.put, List.setIfInBounds_toArray, List.set_cons_zero, List.set_cons_succ]
  refine wpAnyH_ready (rs := [6]) (by kernel_rfl) (by simp) ?_
  refine AllReadyH.cons (o := { dst := some 59, op := Op.box 109 (Operand.tmp 58), type := 106, pos := "parcel.go:157", after := #[{ on := 5, ground := Ground.data }], guard := none }) rfl (fun K' hK => ?_) AllReadyH.nil
  go_simp
  (try go_simp)
  refine hK.out _ _ (hHeld.kp ((Kp.refl [] _).alloc _)) (fun hHeld => ?_)
  clear hK K'
  try simp only [Act.put, List.setIfInBounds_toArray, List.set_cons_zero, List.set_cons_succ]
  refine wpAnyH_take (i := 7) (oi := { dst := some 11, op := Op.assign (Operand.tmp 59), type := 106, pos := "parcel.go:157", after := #[{ on := 6, ground := Ground.data }, { on := 0, ground := Ground.phase }, { on := 1, ground := Ground.phase }, { on := 2, ground := Ground.phase }, { on := 3, ground := Ground.phase }, { on := 4, ground := Ground.phase }, { on := 5, ground := Ground.phase }, { on := 6, ground := Ground.phase }], guard := none }) (v := .pointer (some ⟨W6.heap.size + 1, 0, none⟩)) rfl (by kernel_rfl) (by kernel_rfl) (by kernel_rfl) (fun _ _ _ h => h) (Or.inl ⟨by rfl, by intro w hSw; (try dsimp only at hSw); go_simp⟩) (by assumption) ?_
  try simp only [Act.put, List.setIfInBounds_toArray, List.set_cons_zero, List.set_cons_succ]
  refine wpAnyH_done (by kernel_rfl) ?_ _
  refine NoPanic.normal ?_
  have HPC7 := Lib.hid (pc_new HADX.out HQ.out HN1.out.1 HN1.out.2.1)
  have HAD7 := Lib.hid hHeld
  have HLC : Hid (w.heap.size ≤ W6.heap.size ∧ ∀ b, Option.some b = Value.ownBlock (.slice a1 q.cont.length c1) → b < W6.heap.size) := Lib.hid ⟨HADX.out.k.size, fun b hb => by have h1 := (HADX.out.lc b hb.symm).2; have h2 := (Array.getElem?_eq_some_iff.1 HADX.out.x.h).1; omega⟩
  clear hHeld hmk hbd HADX
  generalize (W6.alloc (.cells (Array.replicate n (Value.pointer none)) 110)).alloc (.cells (bv q.sum ++ [Value.slice (some ⟨W6.heap.size, 0, none⟩) n n]).toArray 109) = W7 at *
  generalize W6.heap.size + 1 = pb at *
  generalize W6.heap.size = ab at *
  have HIX : Hid ((List.replicate n (none : Option (List UInt8)))[q.idx.toNat]? = some none) := Lib.hid (HW0.out _ HN1.out.2.2.1)
  have HIXL : Hid (q.idx.toNat < (List.replicate n (none : Option (List UInt8))).length) := Lib.hid (by rw [List.length_replicate]; exact HN1.out.2.2.1)
  have HGA : Hid (¬ G ab) := Lib.hid (fun hg => absurd (HGL.out _ hg) (Nat.not_lt.2 HLC.out.1))
  have hmb : (((nv (missL (List.replicate n (none : Option (List UInt8))))).length : Int) == 1) = false := by rw [nv_len]; rw [beq_eq_false_iff_ne]; have := HW.out; omega
  have HMI : Hid (Calls Tryd.prog 51 #[.pointer (some ⟨pb, 0, none⟩)] W7 fun e w' => ∃ v, e = .returned v ∧ Own w' W7.heap.size 3 v (nv (missL (List.replicate n (none : Option (List UInt8))))) ∧ Kp [] W7 w') := Lib.hid (missing_any _ _ _ _ _ _ HPC7.out)
  go_wp2_with (first
    | (go_at_call 51; go_must (refine HMI.out.mono ?_; rintro e w8 ⟨v8, rfl, ho8, hk8⟩; obtain ⟨a8, c8, rfl⟩ := ho8.rd.form; have HAD8 := Lib.hid (HAD7.out.kp hk8); have HPC8 := Lib.hid (HPC7.out.kp0 hk8); clear ho8 hk8))
    | fail)
  clear HAD7 HPC7 HMI
  go_quiet (fail)
  have HAD9 := Lib.hid (HAD8.out.kp ((Kp.refl [] w8).drewN nq))
  have HPC9 := Lib.hid (HPC8.out.kp0 ((Kp.refl [] w8).drewN nq))
  clear HAD8 HPC8 hmb
  generalize w8.drewN nq = W9 at *
  have HAD10 := Lib.hid HAD9.out.drew
  have HPC10 := Lib.hid (HPC9.out.kp0 ((Kp.refl [] W9).drew))
  obtain ⟨ct0, ct1, cn0, cn1, cx0, cx1, cx2⟩ := HAD9.out.c0
  have c8' := HPC9.out.c8
  rw [List.length_replicate] at c8'
  have hi0 := HQ.out.i0
  have hil : q.idx < (n : Int) := HN1.out.2.2.2
  have hcn : W9.drew.cell? ⟨ab, q.idx.toNat, none⟩ = some (.pointer none) := HPC10.out.hole HIX.out
  have hfz : W9.drew.frozen? ⟨ab, q.idx.toNat, none⟩ = false := HPC10.out.free _
  go_wp2_with fail
  go_still_tail 7, (by kernel_rfl)
  change wpList _ _ _ _ _ W9.drew
  clear ct0 ct1 cn0 cn1 cx0 cx1 cx2 c8' hi0 hil
  generalize W9.drew = W10 at *
  have HAE := Lib.hid (ae_of HAD10.out HPC10.out HGA.out HIXL.out (fun b hb => Nat.ne_of_lt (HLC.out.2 b hb.symm)) (W' := W10.setCell ⟨ab, q.idx.toNat, none⟩ (.pointer (some ⟨xb, 0, none⟩))) rfl)
  go_wp2_with fail
  clear hcn hfz HAD9 HPC9 HAD10 HPC10
  generalize W10.setCell ⟨ab, q.idx.toNat, none⟩ (.pointer (some ⟨xb, 0, none⟩)) = W11 at *
  have HAE2 := Lib.hid HAE.out.drew
  obtain ⟨ct1, cn0, cn1⟩ := HAE.out.c0
  go_still_tail 6, (by kernel_rfl)
  change wpList _ _ _ _ _ W11.drew
  clear ct1 cn0 cn1 HAE
  generalize W11.drew = W12 at *
  go_wp2_with (first
    | (at_mapUpdate; (refine wpl_upd (k := (p, q.id)) (b := pb) rfl _ _ _ rfl rfl rfl rfl (HAE2.out.m.upd_new HKO.out pb (by rw [lookK_Zk, HZN.out]; rfl)) ?_; intro w13 hm13 hk13; have HF13 := Lib.hid (fin_new HZ0.out HF.out HAE2.out HLC.out.1 HGL.out hm13 hk13); have cx0 := HAE2.out.id hk13; clear hm13 hk13))
    | fail)
  go_ret3
  exact ⟨rfl, pb, ab, HLC.out.1, HF13.out.1, HF13.out.2⟩
set_option maxRecDepth 100000 in
set_option maxHeartbeats 2000000 in
theorem add_new_whole (mk : List UInt8 → List UInt8) (w : World) (G : Nat → Prop) (t : Nat) (most : Int) (B : Nat) (Z : List Zt) (p : List UInt8) (v : Value) (q : Prt) (h : AH mk w G t most B Z p v q) (hz : findZ Z (p, q.id) = none) (hf : (Z.length : Int) < most) (hw : (missL (List.replicate q.cnt.toNat none)).length = 1) (hs : mk (textL ((List.replicate q.cnt.toNat none).set q.idx.toNat (some q.cont))) = q.sum) : Calls Tryd.prog 26 #[.pointer (some ⟨t, 0, none⟩), .string (strOf p), v] w fun e w' => e = .returned (.tuple #[.int .u32 q.id, .bool true, .int .i64 0]) ∧ ∃ pb ab, w.heap.size ≤ ab ∧ TRz w' (Gn G w ab) t most B (Z ++ [⟨⟨p, q.id, q.sum, (List.replicate q.cnt.toNat none).set q.idx.toNat (some q.cont)⟩, pb, ab⟩]) ∧ Kp [B] w w' := by
  generalize hn' : q.cnt.toNat = n at *
  have HW := Lib.hid hw
  clear hw
  have HS := Lib.hid hs
  clear hs
  have HW0 : Hid (∀ i, i < n → (List.replicate n (none : Option (List UInt8)))[i]? = some none) := Lib.hid (fun i hi => by rw [List.getElem?_replicate, if_pos hi])
  have HN := Lib.hid h.hn
  have HRD := Lib.hid h.hr
  have HZ0 := Lib.hid h.z
  have HQ := Lib.hid h.qo
  have HKO := Lib.hid h.ko
  have HTB := Lib.hid h.mc
  have HML := Lib.hid h.ml
  have HGL := Lib.hid h.gl
  have HLK : Hid (∀ W, TRz W G t most B Z → (Instr.lookup 97 (.map (some B)) (.agg #[.string (strOf p), .int .u32 q.id]) false).run Tryd.prog W = .ok (.pointer none) W) := Lib.hid (fun W hW => by have := hW.m.lookup (k := (p, q.id)) h.ko; rw [lookK_Zk, hz] at this; exact this)
  clear h
  go_enter Tryd.func26, Tryd.ntmps26
  go_wp2_with (first
    | (go_at_call 49; go_must (refine HN.out.mono ?_; rintro e w1 ⟨rfl, rfl⟩))
    | (go_at_call 50; go_must (refine HRD.out.mono ?_; rintro e w1 ⟨a1, c1, rfl, ho1, hk1⟩; have HO1 := Lib.hid ho1; have HK1 := Lib.hid hk1; clear ho1 hk1))
    | ((with_reducible show wpList _ _ _ ({ dst := none, op := Op.store _ (.tmp 9) (.tmp 20), type := _, pos := _, after := _, guard := _ } :: _) _ _); go_must ((with_reducible refine wpList_store_row ?b1 101 (.tmp 9) (.tmp 20) ?b2 w1.heap.size (pcl q.id q.cnt q.idx q.sum (.slice a1 q.cont.length c1)).toArray ?b3 ?b4 101 (pcl 0 0 0 s8 (.slice none 0 0)).toArray ?b5 ?b6 ?b7 ?b8 ?b9); (case b1 => rfl); (case b2 => rfl); (case b3 => rfl); (case b4 => rfl); (case b5 => exact heap_alloc_new w1 _); (case b6 => (rw [List.size_toArray, pcl_len _ _ _ _ _ HQ.out.s]; kernel_rfl)); (case b7 => (rw [List.size_toArray, List.size_toArray, pcl_len _ _ _ _ _ HQ.out.s]; rfl)); (case b8 => exact all_oneCell_toArray (pcl_one _ _ _ _ a1 (_, _))); change wpList _ _ _ _ _ ((w1.alloc (.cells (pcl 0 0 0 s8 (.slice none 0 0)).toArray 101)).setRow w1.heap.size (pcl q.id q.cnt q.idx q.sum (.slice a1 q.cont.length c1)).toArray); have HAD := Lib.hid (ad_start (p := p) (O := (pcl 0 0 0 s8 (.slice none 0 0)).toArray) HZ0.out HQ.out HK1.out HO1.out (W2 := (w1.alloc (.cells (pcl 0 0 0 s8 (.slice none 0 0)).toArray 101)).setRow w1.heap.size (pcl q.id q.cnt q.idx q.sum (.slice a1 q.cont.length c1)).toArray) rfl); have c0 : ((w1.alloc (.cells (pcl 0 0 0 s8 (.slice none 0 0)).toArray 101)).setRow w1.heap.size (pcl q.id q.cnt q.idx q.sum (.slice a1 q.cont.length c1)).toArray).cell? ⟨w1.heap.size, 0, none⟩ = some (.int .u32 q.id) := (by rw [cell_of_row _ w1.heap.size 0 _ _ _ (setRow_heap _ _ _ _ _ _ (heap_alloc_new w1 _))]; rfl); generalize (w1.alloc (.cells (pcl 0 0 0 s8 (.slice none 0 0)).toArray 101)).setRow w1.heap.size (pcl q.id q.cnt q.idx q.sum (.slice a1 q.cont.length c1)).toArray = W2 at *))
    | fail)
  generalize w1.heap.size = xb at *
  generalize W2.heap.size = nb at *
  generalize W2.alloc (.cells #[.string (strOf p), .int .u32 q.id] 105) = W3 at *
  clear c0 HO1 HK1
  obtain ⟨ct0, ct1, cn0, cn1, cx0, cx1, cx2⟩ := HAD.out.c0
  have hlk : ∀ n, (Instr.lookup 97 (.map (some B)) (.agg #[.string (strOf p), .int .u32 q.id]) false).run Tryd.prog (W3.drewN n) = .ok (.pointer none) (W3.drewN n) := fun n => HLK.out _ (HAD.out.z.kp0 ((Kp.refl [] W3).drewN n))
  go_quiet (fail)
  have HAD4 := Lib.hid (HAD.out.kp ((Kp.refl [] W3).drewN nq))
  clear hlk HAD HLK ct0 ct1 cn0 cn1 cx0 cx1 cx2
  generalize W3.drewN nq = W4 at *
  obtain ⟨ct0, ct1, cn0, cn1, cx0, cx1, cx2⟩ := HAD4.out.c0
  have hlen : ∀ n ty, (Builtin.len_ #[97] ty #[.map (some B)]).run Tryd.prog (W4.drewN n) = .ok (.int .i64 (Zk Z).length) (W4.drewN n) := fun n ty => (HAD4.out.z.kp0 ((Kp.refl [] W4).drewN n)).m.len ty
  have hfl : ((Zk Z).length : Int) < most := by unfold Zk; rw [List.length_map]; exact hf
  have HF := Lib.hid hf
  have HZN := Lib.hid hz
  clear hf hz
  go_wp2_with fail
  go_quiet (fail)
  go_wp2_with fail
  have HAD5 := Lib.hid (HAD4.out.kp ((Kp.refl [] W4).drewN nq))
  clear HAD4 hlen hfl ct0 ct1 cn0 cn1 cx0 cx1 cx2
  generalize W4.drewN nq = W5 at *
  have hn : q.cnt = (n : Int) := (by have := HQ.out.c1; omega)
  have HN1 : Hid (1 ≤ n ∧ n ≤ 64 ∧ q.idx.toNat < n ∧ q.idx < (n : Int)) := Lib.hid (by have := HQ.out.c1; have := HQ.out.c2; have := HQ.out.i1; have := HQ.out.i0; omega)
  have hmk : ∀ W, (Instr.makeSlice 107 (.int .i64 q.cnt) (.int .i64 q.cnt)).run Tryd.prog W = .ok (.slice (some ⟨W.heap.size, 0, none⟩) n n) (W.alloc (.cells (List.replicate n (Value.pointer none)).toArray 110)) := by intro W; rw [hn]; exact run_mk_parts W n HN1.out.2.1
  clear hn'
  clear hn
  have hbd := fun W a => run_build_parcel W q.sum HQ.out.s a n n
  have hu1 := Tryd.underlying88
  have hi1 : (Tryd.prog.info? 88).map (·.size) = some (bv q.sum).length := by rw [bv_length, HQ.out.s]; kernel_rfl
  refine wp_region_noPanic ?_
  refine wp_region_held_drew (S := fun w' => AD w w' G t most B Z xb nb q (.slice a1 q.cont.length c1) p) (by kernel_rfl) (HAD5.out.drew) (fun hHeld => ?_)
  have hHeld0 := HAD5.out.drew
  generalize W5.drew = W6 at *
  have HADX := Lib.hid hHeld0
  clear hHeld0 HAD5
  refine wpAnyH_take (i := 0) (oi := { dst := some 53, op := Op.fieldAddr 101 (Operand.tmp 9) 3, type := 0, pos := "parcel.go:157", after := #[], guard := none }) (v := .pointer (some ⟨xb, 3, none⟩)) rfl (by kernel_rfl) (by kernel_rfl) (by kernel_rfl) (fun _ _ _ h => h) (Or.inl ⟨by rfl, by intro w hSw; (try dsimp only at hSw); go_simp⟩) (by assumption) ?_
  try simp only [Act.put, List.setIfInBounds_toArray, List.set_cons_zero, List.set_cons_succ]
  refine wpAnyH_take (i := 1) (oi := { dst := some 54, op := Op.load 88 (Operand.tmp 53), type := 88, pos := "parcel.go:157", after := #[{ on := 0, ground := Ground.data }], guard := none }) (v := .agg (bv q.sum).toArray) rfl (by kernel_rfl) (by kernel_rfl) (by kernel_rfl) (fun _ _ _ h => h) (yieldsIf_load_mid (by rfl) 88 (.tmp 53) (by rfl) xb 3 (by rfl) (bv q.sum) _ (fun w h => h.x.range) hu1 rfl hi1) (by assumption) ?_
  try simp only [Act.put, List.setIfInBounds_toArray, List.set_cons_zero, List.set_cons_succ]
  refine wpAnyH_take (i := 2) (oi := { dst := some 55, op := Op.fieldAddr 101 (Operand.tmp 9) 1, type := 0, pos := "parcel.go:157", after := #[], guard := none }) (v := .pointer (some ⟨xb, 1, none⟩)) rfl (by kernel_rfl) (by kernel_rfl) (by kernel_rfl) (fun _ _ _ h => h) (Or.inl ⟨by rfl, by intro w hSw; (try dsimp only at hSw); go_simp⟩) (by assumption) ?_
  try simp only [Act.put, List.setIfInBounds_toArray, List.set_cons_zero, List.set_cons_succ]
  refine wpAnyH_take (i := 3) (oi := { dst := some 56, op := Op.load 3 (Operand.tmp 55), type := 3, pos := "parcel.go:157", after := #[{ on := 2, ground := Ground.data }], guard := none }) (v := .int .i64 q.cnt) rfl (by kernel_rfl) (by kernel_rfl) (by kernel_rfl) (fun _ _ _ h => h) (Or.inl ⟨by rfl, by intro w hSw; (try dsimp only at hSw); have hcx := hSw.c0.2.2.2.2.2.1; go_simp⟩) (by assumption) ?_
  try simp only [Act.put, List.setIfInBounds_toArray, List.set_cons_zero, List.set_cons_succ]
  refine wpAnyH_ready (rs := [4]) (by kernel_rfl) (by simp) ?_
  refine AllReadyH.cons (o := { dst := some 57, op := Op.makeSlice 107 (Operand.tmp 56) (Operand.tmp 56), type := 107, pos := "parcel.go:157", after := #[{ on := 3, ground := Ground.data }, { on := 3, ground := Ground.data }], guard := none }) rfl (fun K' hK => ?_) AllReadyH.nil
  go_simp
  (try go_simp)
  refine hK.out _ _ (hHeld.kp ((Kp.refl [] _).alloc _)) (fun hHeld => ?_)
  clear hK K'
  try simp only [Act.put, List.setIfInBounds_toArray, List.set_cons_zero, List.set_cons_succ]
  refine wpAnyH_take (i := 5) (oi := { dst := some 58, op := Op.build 109 #[(0, Operand.tmp 54), (1, Operand.tmp 57)], type := 109, pos := "parcel.go:157", after := #[{ on := 1, ground := Ground.data }, { on := 4, ground := Ground.data }], guard := none }) (v := .agg (bv q.sum ++ [Value.slice (some ⟨W6.heap.size, 0, none⟩) n n]).toArray) rfl (by kernel_rfl) (by kernel_rfl) (by kernel_rfl) (fun _ _ _ h => h) (Or.inl ⟨by rfl, by intro w hSw; refine exec_build (by rfl) ?_; simp only [List.map_toArray, List.map_cons, List.map_nil]; exact hbd w _⟩) (by assumption) ?_
  try simp only [Act.put, List.setIfInBounds_toArray, List.set_cons_zero, List.set_cons_succ]
  refine wpAnyH_ready (rs := [6]) (by kernel_rfl) (by simp) ?_
  refine AllReadyH.cons (o := { dst := some 59, op := Op.box 109 (Operand.tmp 58), type := 106, pos := "parcel.go:157", after := #[{ on := 5, ground := Ground.data }], guard := none }) rfl (fun K' hK => ?_) AllReadyH.nil
  go_simp
  (try go_simp)
  refine hK.out _ _ (hHeld.kp ((Kp.refl [] _).alloc _)) (fun hHeld => ?_)
  clear hK K'
  try simp only [Act.put, List.setIfInBounds_toArray, List.set_cons_zero, List.set_cons_succ]
  refine wpAnyH_take (i := 7) (oi := { dst := some 11, op := Op.assign (Operand.tmp 59), type := 106, pos := "parcel.go:157", after := #[{ on := 6, ground := Ground.data }, { on := 0, ground := Ground.phase }, { on := 1, ground := Ground.phase }, { on := 2, ground := Ground.phase }, { on := 3, ground := Ground.phase }, { on := 4, ground := Ground.phase }, { on := 5, ground := Ground.phase }, { on := 6, ground := Ground.phase }], guard := none }) (v := .pointer (some ⟨W6.heap.size + 1, 0, none⟩)) rfl (by kernel_rfl) (by kernel_rfl) (by kernel_rfl) (fun _ _ _ h => h) (Or.inl ⟨by rfl, by intro w hSw; (try dsimp only at hSw); go_simp⟩) (by assumption) ?_
  try simp only [Act.put, List.setIfInBounds_toArray, List.set_cons_zero, List.set_cons_succ]
  refine wpAnyH_done (by kernel_rfl) ?_ _
  refine NoPanic.normal ?_
  have HPC7 := Lib.hid (pc_new HADX.out HQ.out HN1.out.1 HN1.out.2.1)
  have HAD7 := Lib.hid hHeld
  have HLC : Hid (w.heap.size ≤ W6.heap.size ∧ ∀ b, Option.some b = Value.ownBlock (.slice a1 q.cont.length c1) → b < W6.heap.size) := Lib.hid ⟨HADX.out.k.size, fun b hb => by have h1 := (HADX.out.lc b hb.symm).2; have h2 := (Array.getElem?_eq_some_iff.1 HADX.out.x.h).1; omega⟩
  clear hHeld hmk hbd HADX
  generalize (W6.alloc (.cells (Array.replicate n (Value.pointer none)) 110)).alloc (.cells (bv q.sum ++ [Value.slice (some ⟨W6.heap.size, 0, none⟩) n n]).toArray 109) = W7 at *
  generalize W6.heap.size + 1 = pb at *
  generalize W6.heap.size = ab at *
  have HIX : Hid ((List.replicate n (none : Option (List UInt8)))[q.idx.toNat]? = some none) := Lib.hid (HW0.out _ HN1.out.2.2.1)
  have HIXL : Hid (q.idx.toNat < (List.replicate n (none : Option (List UInt8))).length) := Lib.hid (by rw [List.length_replicate]; exact HN1.out.2.2.1)
  have HGA : Hid (¬ G ab) := Lib.hid (fun hg => absurd (HGL.out _ hg) (Nat.not_lt.2 HLC.out.1))
  have hmb : (((nv (missL (List.replicate n (none : Option (List UInt8))))).length : Int) == 1) = true := by rw [nv_len]; rw [HW.out]; rfl
  have HMI : Hid (Calls Tryd.prog 51 #[.pointer (some ⟨pb, 0, none⟩)] W7 fun e w' => ∃ v, e = .returned v ∧ Own w' W7.heap.size 3 v (nv (missL (List.replicate n (none : Option (List UInt8))))) ∧ Kp [] W7 w') := Lib.hid (missing_any _ _ _ _ _ _ HPC7.out)
  go_wp2_with (first
    | (go_at_call 51; go_must (refine HMI.out.mono ?_; rintro e w8 ⟨v8, rfl, ho8, hk8⟩; obtain ⟨a8, c8, rfl⟩ := ho8.rd.form; have HAD8 := Lib.hid (HAD7.out.kp hk8); have HPC8 := Lib.hid (HPC7.out.kp0 hk8); clear ho8 hk8))
    | fail)
  clear HAD7 HPC7 HMI
  have HTX : Hid (∀ W, PcAt W (Gn G w ab) pb ab q.sum (List.replicate n (none : Option (List UInt8))) → PartAt W xb q (.slice a1 q.cont.length c1) → Calls Tryd.prog 52 #[.pointer (some ⟨pb, 0, none⟩), .pointer (some ⟨xb, 0, none⟩)] W fun e w' => ∃ v, e = .returned v ∧ Cut w' W.heap.size v (textL ((List.replicate n (none : Option (List UInt8))).set q.idx.toNat (some q.cont))) ∧ Kp [] W w') := Lib.hid (fun W h1 h2 => text_with _ _ _ _ _ xb q (.slice a1 q.cont.length c1) q.idx.toNat W h1 h2 (by have := HQ.out.i0; omega) (miss_one HW.out HIX.out))
  have HTL : Hid ((textL ((List.replicate n (none : Option (List UInt8))).set q.idx.toNat (some q.cont))).length ≤ 562949953421312) := Lib.hid (by have h1 := textL_len ((List.replicate n (none : Option (List UInt8))).set q.idx.toNat (some q.cont)) (fun c hc => by rcases List.mem_or_eq_of_mem_set hc with hc | hc; exact HPC8.out.short c hc; cases hc; exact HQ.out.l); have h2 := HPC8.out.hn.2; rw [List.length_set] at h1; omega)
  have HSL : Hid (q.sum.length = 8) := Lib.hid HPC8.out.hs
  have HMN := Lib.hid (HML.out (textL ((List.replicate n (none : Option (List UInt8))).set q.idx.toNat (some q.cont))))
  have hne := fun W => mark_same q.sum HSL.out W
  have HEQ := HS
  have hu1 := Tryd.underlying88
  have hi1 : (Tryd.prog.info? 88).map (·.size) = some (bv q.sum).length := by rw [bv_length, HSL.out]; kernel_rfl
  refine wp_region_noPanic ?_
  refine wp_region_held_drew (S := fun w' => AD w w' G t most B Z xb nb q (.slice a1 q.cont.length c1) p ∧ PcAt w' (Gn G w ab) pb ab q.sum (List.replicate n (none : Option (List UInt8)))) (by kernel_rfl) (⟨HAD8.out.drew, HPC8.out.kp0 ((Kp.refl [] w8).drew)⟩) (fun hHeld => ?_)
  clear hmb
  refine wpAnyH_take (i := 0) (oi := { dst := some 92, op := Op.move (Operand.tmp 7), type := 4, pos := "parcel.go:164", after := #[], guard := none }) (v := .bool true) rfl (by kernel_rfl) (by kernel_rfl) (by kernel_rfl) (fun _ _ _ h => h) (Or.inl ⟨by rfl, by intro w hSw; (try dsimp only at hSw); go_simp⟩) (by assumption) ?_
  try simp only [Act.put, List.setIfInBounds_toArray, List.set_cons_zero, List.set_cons_succ]
  refine wpAnyH_take (i := 1) (oi := { dst := some 93, op := Op.move (Operand.tmp 92), type := 4, pos := "parcel.go:164", after := #[{ on := 0, ground := Ground.data }], guard := none }) (v := .bool true) rfl (by kernel_rfl) (by kernel_rfl) (by kernel_rfl) (fun _ _ _ h => h) (Or.inl ⟨by rfl, by intro w hSw; (try dsimp only at hSw); go_simp⟩) (by assumption) ?_
  try simp only [Act.put, List.setIfInBounds_toArray, List.set_cons_zero, List.set_cons_succ]
  refine wpAnyH_take (i := 2) (oi := { dst := some 94, op := Op.move (Operand.tmp 11), type := 106, pos := "parcel.go:164", after := #[{ on := 1, ground := Ground.guard }], guard := some (1, true) }) (v := .pointer (some ⟨pb, 0, none⟩)) rfl (by kernel_rfl) (by kernel_rfl) (by kernel_rfl) (fun _ _ _ h => h) (Or.inl ⟨by rfl, by intro w hSw; (try dsimp only at hSw); go_simp⟩) (by assumption) ?_
  try simp only [Act.put, List.setIfInBounds_toArray, List.set_cons_zero, List.set_cons_succ]
  refine wpAnyH_take (i := 5) (oi := { dst := some 97, op := Op.move (Operand.tmp 11), type := 106, pos := "parcel.go:164", after := #[{ on := 1, ground := Ground.guard }], guard := some (1, true) }) (v := .pointer (some ⟨pb, 0, none⟩)) rfl (by kernel_rfl) (by kernel_rfl) (by kernel_rfl) (fun _ _ _ h => h) (Or.inl ⟨by rfl, by intro w hSw; (try dsimp only at hSw); go_simp⟩) (by assumption) ?_
  try simp only [Act.put, List.setIfInBounds_toArray, List.set_cons_zero, List.set_cons_succ]
  refine wpAnyH_take (i := 6) (oi := { dst := some 98, op := Op.nilCheck (Operand.tmp 97), type := 0, pos := "parcel.go:164", after := #[{ on := 5, ground := Ground.data }, { on := 1, ground := Ground.guard }], guard := some (1, true) }) (v := .pointer (some ⟨pb, 0, none⟩)) rfl (by kernel_rfl) (by kernel_rfl) (by kernel_rfl) (fun _ _ _ h => h) (Or.inl ⟨by rfl, by intro w hSw; (try dsimp only at hSw); go_simp⟩) (by assumption) ?_
  try simp only [Act.put, List.setIfInBounds_toArray, List.set_cons_zero, List.set_cons_succ]
  refine wpAnyH_take (i := 7) (oi := { dst := some 99, op := Op.fieldAddr 109 (Operand.tmp 98) 0, type := 0, pos := "parcel.go:164", after := #[{ on := 6, ground := Ground.data }, { on := 1, ground := Ground.guard }], guard := some (1, true) }) (v := .pointer (some ⟨pb, 0, none⟩)) rfl (by kernel_rfl) (by kernel_rfl) (by kernel_rfl) (fun _ _ _ h => h) (Or.inl ⟨by rfl, by intro w hSw; (try dsimp only at hSw); go_simp⟩) (by assumption) ?_
  try simp only [Act.put, List.setIfInBounds_toArray, List.set_cons_zero, List.set_cons_succ]
  refine wpAnyH_take (i := 8) (oi := { dst := some 100, op := Op.load 88 (Operand.tmp 99), type := 88, pos := "parcel.go:164", after := #[{ on := 7, ground := Ground.data }, { on := 1, ground := Ground.guard }], guard := some (1, true) }) (v := .agg (bv q.sum).toArray) rfl (by kernel_rfl) (by kernel_rfl) (by kernel_rfl) (fun _ _ _ h => h) (yieldsIf_load_mid (by rfl) 88 (.tmp 99) (by rfl) pb 0 (by rfl) (bv q.sum) _ (fun w h => h.2.range) hu1 rfl hi1) (by assumption) ?_
  try simp only [Act.put, List.setIfInBounds_toArray, List.set_cons_zero, List.set_cons_succ]
  refine wpAnyH_ready (rs := [3]) (by kernel_rfl) (by simp) ?_
  refine AllReadyH.cons (o := { dst := some 95, op := Op.call { callee := Callee.value (Operand.func 52), args := #[Operand.tmp 94, Operand.tmp 9], argTypes := #[106, 110] }, type := 27, pos := "parcel.go:164", after := #[{ on := 2, ground := Ground.data }, { on := 1, ground := Ground.chain }, { on := 1, ground := Ground.guard }], guard := some (1, true) }) rfl (fun K' hK => ?_) AllReadyH.nil
  go_simp
  refine (HTX.out _ hHeld.2 hHeld.1.x).mono ?_
  rintro e w4 ⟨v4, rfl, hcu4, hk4⟩
  have HCU := Lib.hid hcu4
  have hm4 : AD w w4 G t most B Z xb nb q (.slice a1 q.cont.length c1) p ∧ PcAt w4 (Gn G w ab) pb ab q.sum (List.replicate n (none : Option (List UInt8))) := ⟨hHeld.1.kp hk4, hHeld.2.kp0 hk4⟩
  clear hk4 hHeld hcu4
  (try go_simp)
  refine hK.out _ _ (hm4) (fun hHeld => ?_)
  clear hK K'
  try simp only [Act.put, List.setIfInBounds_toArray, List.set_cons_zero, List.set_cons_succ]
  refine wpAnyH_ready (rs := [4]) (by kernel_rfl) (by simp) ?_
  refine AllReadyH.cons (o := { dst := some 96, op := Op.call { callee := Callee.value (Operand.func 43), args := #[Operand.tmp 95], argTypes := #[27] }, type := 88, pos := "parcel.go:164", after := #[{ on := 3, ground := Ground.data }, { on := 3, ground := Ground.chain }, { on := 1, ground := Ground.guard }], guard := some (1, true) }) rfl (fun K' hK => ?_) AllReadyH.nil
  go_simp
  refine (HTB.out w4 v4 _ hm4.1.k HCU.out.rd HTL.out).mono ?_
  rintro e w5 ⟨rfl, hk5⟩
  have hm5 : AD w w5 G t most B Z xb nb q (.slice a1 q.cont.length c1) p ∧ PcAt w5 (Gn G w ab) pb ab q.sum (List.replicate n (none : Option (List UInt8))) := ⟨hm4.1.kp hk5, hm4.2.kp0 hk5⟩
  clear hk5 hm4 HCU hHeld
  (try go_simp)
  refine hK.out _ _ (hm5) (fun hHeld => ?_)
  clear hK K'
  try simp only [Act.put, List.setIfInBounds_toArray, List.set_cons_zero, List.set_cons_succ]
  simp only [HEQ.out]
  refine wpAnyH_take (i := 9) (oi := { dst := some 101, op := Op.binOp BinOp.neq 88 (Operand.tmp 96) (Operand.tmp 100) 88, type := 4, pos := "parcel.go:164", after := #[{ on := 4, ground := Ground.data }, { on := 8, ground := Ground.data }, { on := 1, ground := Ground.guard }], guard := some (1, true) }) (v := .bool false) rfl (by kernel_rfl) (by kernel_rfl) (by kernel_rfl) (fun _ _ _ h => h) (Or.inl ⟨by rfl, by intro w hSw; (try dsimp only at hSw); go_simp⟩) (by assumption) ?_
  try simp only [Act.put, List.setIfInBounds_toArray, List.set_cons_zero, List.set_cons_succ]
  refine wpAnyH_take (i := 10) (oi := { dst := some 102, op := Op.pick (Operand.tmp 93) (Operand.tmp 101) (Operand.const (Value.bool false)), type := 4, pos := "parcel.go:164", after := #[{ on := 1, ground := Ground.data }, { on := 9, ground := Ground.data }], guard := none }) (v := .bool false) rfl (by kernel_rfl) (by kernel_rfl) (by kernel_rfl) (fun _ _ _ h => h) (Or.inl ⟨by rfl, by intro w hSw; (try dsimp only at hSw); go_simp⟩) (by assumption) ?_
  try simp only [Act.put, List.setIfInBounds_toArray, List.set_cons_zero, List.set_cons_succ]
  refine wpAnyH_done (by kernel_rfl) ?_ _
  refine NoPanic.normal ?_
  have HAD9 := Lib.hid hHeld.1
  have HPC9 := Lib.hid hHeld.2
  clear hHeld hm5 hne HEQ
  generalize hW9 : w5 = W9 at *
  clear hW9
  have HAD10 := Lib.hid HAD9.out.drew
  have HPC10 := Lib.hid (HPC9.out.kp0 ((Kp.refl [] W9).drew))
  obtain ⟨ct0, ct1, cn0, cn1, cx0, cx1, cx2⟩ := HAD9.out.c0
  have c8' := HPC9.out.c8
  rw [List.length_replicate] at c8'
  have hi0 := HQ.out.i0
  have hil : q.idx < (n : Int) := HN1.out.2.2.2
  have hcn : W9.drew.cell? ⟨ab, q.idx.toNat, none⟩ = some (.pointer none) := HPC10.out.hole HIX.out
  have hfz : W9.drew.frozen? ⟨ab, q.idx.toNat, none⟩ = false := HPC10.out.free _
  go_wp2_with fail
  go_still_tail 7, (by kernel_rfl)
  change wpList _ _ _ _ _ W9.drew
  clear ct0 ct1 cn0 cn1 cx0 cx1 cx2 c8' hi0 hil
  generalize W9.drew = W10 at *
  have HAE := Lib.hid (ae_of HAD10.out HPC10.out HGA.out HIXL.out (fun b hb => Nat.ne_of_lt (HLC.out.2 b hb.symm)) (W' := W10.setCell ⟨ab, q.idx.toNat, none⟩ (.pointer (some ⟨xb, 0, none⟩))) rfl)
  go_wp2_with fail
  clear hcn hfz HAD9 HPC9 HAD10 HPC10
  generalize W10.setCell ⟨ab, q.idx.toNat, none⟩ (.pointer (some ⟨xb, 0, none⟩)) = W11 at *
  have HAE2 := Lib.hid HAE.out.drew
  obtain ⟨ct1, cn0, cn1⟩ := HAE.out.c0
  go_still_tail 6, (by kernel_rfl)
  change wpList _ _ _ _ _ W11.drew
  clear ct1 cn0 cn1 HAE
  generalize W11.drew = W12 at *
  go_wp2_with (first
    | (at_mapUpdate; (refine wpl_upd (k := (p, q.id)) (b := pb) rfl _ _ _ rfl rfl rfl rfl (HAE2.out.m.upd_new HKO.out pb (by rw [lookK_Zk, HZN.out]; rfl)) ?_; intro w13 hm13 hk13; have HF13 := Lib.hid (fin_new HZ0.out HF.out HAE2.out HLC.out.1 HGL.out hm13 hk13); have cx0 := HAE2.out.id hk13; clear hm13 hk13))
    | fail)
  go_ret3
  exact ⟨rfl, pb, ab, HLC.out.1, HF13.out.1, HF13.out.2⟩
set_option maxRecDepth 100000 in
set_option maxHeartbeats 2000000 in
theorem add_new_sum (mk : List UInt8 → List UInt8) (w : World) (G : Nat → Prop) (t : Nat) (most : Int) (B : Nat) (Z : List Zt) (p : List UInt8) (v : Value) (q : Prt) (h : AH mk w G t most B Z p v q) (hz : findZ Z (p, q.id) = none) (hf : (Z.length : Int) < most) (hw : (missL (List.replicate q.cnt.toNat none)).length = 1) (hs : mk (textL ((List.replicate q.cnt.toNat none).set q.idx.toNat (some q.cont))) ≠ q.sum) : Calls Tryd.prog 26 #[.pointer (some ⟨t, 0, none⟩), .string (strOf p), v] w fun e w' => e = .returned (.tuple #[.int .u32 0, .bool false, .int .i64 101]) ∧ Kp [] w w' := by
  generalize hn' : q.cnt.toNat = n at *
  have HW := Lib.hid hw
  clear hw
  have HS := Lib.hid hs
  clear hs
  have HW0 : Hid (∀ i, i < n → (List.replicate n (none : Option (List UInt8)))[i]? = some none) := Lib.hid (fun i hi => by rw [List.getElem?_replicate, if_pos hi])
  have HN := Lib.hid h.hn
  have HRD := Lib.hid h.hr
  have HZ0 := Lib.hid h.z
  have HQ := Lib.hid h.qo
  have HKO := Lib.hid h.ko
  have HTB := Lib.hid h.mc
  have HML := Lib.hid h.ml
  have HGL := Lib.hid h.gl
  have HLK : Hid (∀ W, TRz W G t most B Z → (Instr.lookup 97 (.map (some B)) (.agg #[.string (strOf p), .int .u32 q.id]) false).run Tryd.prog W = .ok (.pointer none) W) := Lib.hid (fun W hW => by have := hW.m.lookup (k := (p, q.id)) h.ko; rw [lookK_Zk, hz] at this; exact this)
  clear h
  go_enter Tryd.func26, Tryd.ntmps26
  go_wp2_with (first
    | (go_at_call 49; go_must (refine HN.out.mono ?_; rintro e w1 ⟨rfl, rfl⟩))
    | (go_at_call 50; go_must (refine HRD.out.mono ?_; rintro e w1 ⟨a1, c1, rfl, ho1, hk1⟩; have HO1 := Lib.hid ho1; have HK1 := Lib.hid hk1; clear ho1 hk1))
    | ((with_reducible show wpList _ _ _ ({ dst := none, op := Op.store _ (.tmp 9) (.tmp 20), type := _, pos := _, after := _, guard := _ } :: _) _ _); go_must ((with_reducible refine wpList_store_row ?b1 101 (.tmp 9) (.tmp 20) ?b2 w1.heap.size (pcl q.id q.cnt q.idx q.sum (.slice a1 q.cont.length c1)).toArray ?b3 ?b4 101 (pcl 0 0 0 s8 (.slice none 0 0)).toArray ?b5 ?b6 ?b7 ?b8 ?b9); (case b1 => rfl); (case b2 => rfl); (case b3 => rfl); (case b4 => rfl); (case b5 => exact heap_alloc_new w1 _); (case b6 => (rw [List.size_toArray, pcl_len _ _ _ _ _ HQ.out.s]; kernel_rfl)); (case b7 => (rw [List.size_toArray, List.size_toArray, pcl_len _ _ _ _ _ HQ.out.s]; rfl)); (case b8 => exact all_oneCell_toArray (pcl_one _ _ _ _ a1 (_, _))); change wpList _ _ _ _ _ ((w1.alloc (.cells (pcl 0 0 0 s8 (.slice none 0 0)).toArray 101)).setRow w1.heap.size (pcl q.id q.cnt q.idx q.sum (.slice a1 q.cont.length c1)).toArray); have HAD := Lib.hid (ad_start (p := p) (O := (pcl 0 0 0 s8 (.slice none 0 0)).toArray) HZ0.out HQ.out HK1.out HO1.out (W2 := (w1.alloc (.cells (pcl 0 0 0 s8 (.slice none 0 0)).toArray 101)).setRow w1.heap.size (pcl q.id q.cnt q.idx q.sum (.slice a1 q.cont.length c1)).toArray) rfl); have c0 : ((w1.alloc (.cells (pcl 0 0 0 s8 (.slice none 0 0)).toArray 101)).setRow w1.heap.size (pcl q.id q.cnt q.idx q.sum (.slice a1 q.cont.length c1)).toArray).cell? ⟨w1.heap.size, 0, none⟩ = some (.int .u32 q.id) := (by rw [cell_of_row _ w1.heap.size 0 _ _ _ (setRow_heap _ _ _ _ _ _ (heap_alloc_new w1 _))]; rfl); generalize (w1.alloc (.cells (pcl 0 0 0 s8 (.slice none 0 0)).toArray 101)).setRow w1.heap.size (pcl q.id q.cnt q.idx q.sum (.slice a1 q.cont.length c1)).toArray = W2 at *))
    | fail)
  generalize w1.heap.size = xb at *
  generalize W2.heap.size = nb at *
  generalize W2.alloc (.cells #[.string (strOf p), .int .u32 q.id] 105) = W3 at *
  clear c0 HO1 HK1
  obtain ⟨ct0, ct1, cn0, cn1, cx0, cx1, cx2⟩ := HAD.out.c0
  have hlk : ∀ n, (Instr.lookup 97 (.map (some B)) (.agg #[.string (strOf p), .int .u32 q.id]) false).run Tryd.prog (W3.drewN n) = .ok (.pointer none) (W3.drewN n) := fun n => HLK.out _ (HAD.out.z.kp0 ((Kp.refl [] W3).drewN n))
  go_quiet (fail)
  have HAD4 := Lib.hid (HAD.out.kp ((Kp.refl [] W3).drewN nq))
  clear hlk HAD HLK ct0 ct1 cn0 cn1 cx0 cx1 cx2
  generalize W3.drewN nq = W4 at *
  obtain ⟨ct0, ct1, cn0, cn1, cx0, cx1, cx2⟩ := HAD4.out.c0
  have hlen : ∀ n ty, (Builtin.len_ #[97] ty #[.map (some B)]).run Tryd.prog (W4.drewN n) = .ok (.int .i64 (Zk Z).length) (W4.drewN n) := fun n ty => (HAD4.out.z.kp0 ((Kp.refl [] W4).drewN n)).m.len ty
  have hfl : ((Zk Z).length : Int) < most := by unfold Zk; rw [List.length_map]; exact hf
  have HF := Lib.hid hf
  have HZN := Lib.hid hz
  clear hf hz
  go_wp2_with fail
  go_quiet (fail)
  go_wp2_with fail
  have HAD5 := Lib.hid (HAD4.out.kp ((Kp.refl [] W4).drewN nq))
  clear HAD4 hlen hfl ct0 ct1 cn0 cn1 cx0 cx1 cx2
  generalize W4.drewN nq = W5 at *
  have hn : q.cnt = (n : Int) := (by have := HQ.out.c1; omega)
  have HN1 : Hid (1 ≤ n ∧ n ≤ 64 ∧ q.idx.toNat < n ∧ q.idx < (n : Int)) := Lib.hid (by have := HQ.out.c1; have := HQ.out.c2; have := HQ.out.i1; have := HQ.out.i0; omega)
  have hmk : ∀ W, (Instr.makeSlice 107 (.int .i64 q.cnt) (.int .i64 q.cnt)).run Tryd.prog W = .ok (.slice (some ⟨W.heap.size, 0, none⟩) n n) (W.alloc (.cells (List.replicate n (Value.pointer none)).toArray 110)) := by intro W; rw [hn]; exact run_mk_parts W n HN1.out.2.1
  clear hn'
  clear hn
  have hbd := fun W a => run_build_parcel W q.sum HQ.out.s a n n
  have hu1 := Tryd.underlying88
  have hi1 : (Tryd.prog.info? 88).map (·.size) = some (bv q.sum).length := by rw [bv_length, HQ.out.s]; kernel_rfl
  refine wp_region_noPanic ?_
  refine wp_region_held_drew (S := fun w' => AD w w' G t most B Z xb nb q (.slice a1 q.cont.length c1) p) (by kernel_rfl) (HAD5.out.drew) (fun hHeld => ?_)
  have hHeld0 := HAD5.out.drew
  generalize W5.drew = W6 at *
  have HADX := Lib.hid hHeld0
  clear hHeld0 HAD5
  refine wpAnyH_take (i := 0) (oi := { dst := some 53, op := Op.fieldAddr 101 (Operand.tmp 9) 3, type := 0, pos := "parcel.go:157", after := #[], guard := none }) (v := .pointer (some ⟨xb, 3, none⟩)) rfl (by kernel_rfl) (by kernel_rfl) (by kernel_rfl) (fun _ _ _ h => h) (Or.inl ⟨by rfl, by intro w hSw; (try dsimp only at hSw); go_simp⟩) (by assumption) ?_
  try simp only [Act.put, List.setIfInBounds_toArray, List.set_cons_zero, List.set_cons_succ]
  refine wpAnyH_take (i := 1) (oi := { dst := some 54, op := Op.load 88 (Operand.tmp 53), type := 88, pos := "parcel.go:157", after := #[{ on := 0, ground := Ground.data }], guard := none }) (v := .agg (bv q.sum).toArray) rfl (by kernel_rfl) (by kernel_rfl) (by kernel_rfl) (fun _ _ _ h => h) (yieldsIf_load_mid (by rfl) 88 (.tmp 53) (by rfl) xb 3 (by rfl) (bv q.sum) _ (fun w h => h.x.range) hu1 rfl hi1) (by assumption) ?_
  try simp only [Act.put, List.setIfInBounds_toArray, List.set_cons_zero, List.set_cons_succ]
  refine wpAnyH_take (i := 2) (oi := { dst := some 55, op := Op.fieldAddr 101 (Operand.tmp 9) 1, type := 0, pos := "parcel.go:157", after := #[], guard := none }) (v := .pointer (some ⟨xb, 1, none⟩)) rfl (by kernel_rfl) (by kernel_rfl) (by kernel_rfl) (fun _ _ _ h => h) (Or.inl ⟨by rfl, by intro w hSw; (try dsimp only at hSw); go_simp⟩) (by assumption) ?_
  try simp only [Act.put, List.setIfInBounds_toArray, List.set_cons_zero, List.set_cons_succ]
  refine wpAnyH_take (i := 3) (oi := { dst := some 56, op := Op.load 3 (Operand.tmp 55), type := 3, pos := "parcel.go:157", after := #[{ on := 2, ground := Ground.data }], guard := none }) (v := .int .i64 q.cnt) rfl (by kernel_rfl) (by kernel_rfl) (by kernel_rfl) (fun _ _ _ h => h) (Or.inl ⟨by rfl, by intro w hSw; (try dsimp only at hSw); have hcx := hSw.c0.2.2.2.2.2.1; go_simp⟩) (by assumption) ?_
  try simp only [Act.put, List.setIfInBounds_toArray, List.set_cons_zero, List.set_cons_succ]
  refine wpAnyH_ready (rs := [4]) (by kernel_rfl) (by simp) ?_
  refine AllReadyH.cons (o := { dst := some 57, op := Op.makeSlice 107 (Operand.tmp 56) (Operand.tmp 56), type := 107, pos := "parcel.go:157", after := #[{ on := 3, ground := Ground.data }, { on := 3, ground := Ground.data }], guard := none }) rfl (fun K' hK => ?_) AllReadyH.nil
  go_simp
  (try go_simp)
  refine hK.out _ _ (hHeld.kp ((Kp.refl [] _).alloc _)) (fun hHeld => ?_)
  clear hK K'
  try simp only [Act.put, List.setIfInBounds_toArray, List.set_cons_zero, List.set_cons_succ]
  refine wpAnyH_take (i := 5) (oi := { dst := some 58, op := Op.build 109 #[(0, Operand.tmp 54), (1, Operand.tmp 57)], type := 109, pos := "parcel.go:157", after := #[{ on := 1, ground := Ground.data }, { on := 4, ground := Ground.data }], guard := none }) (v := .agg (bv q.sum ++ [Value.slice (some ⟨W6.heap.size, 0, none⟩) n n]).toArray) rfl (by kernel_rfl) (by kernel_rfl) (by kernel_rfl) (fun _ _ _ h => h) (Or.inl ⟨by rfl, by intro w hSw; refine exec_build (by rfl) ?_; simp only [List.map_toArray, List.map_cons, List.map_nil]; exact hbd w _⟩) (by assumption) ?_
  try simp only [Act.put, List.setIfInBounds_toArray, List.set_cons_zero, List.set_cons_succ]
  refine wpAnyH_ready (rs := [6]) (by kernel_rfl) (by simp) ?_
  refine AllReadyH.cons (o := { dst := some 59, op := Op.box 109 (Operand.tmp 58), type := 106, pos := "parcel.go:157", after := #[{ on := 5, ground := Ground.data }], guard := none }) rfl (fun K' hK => ?_) AllReadyH.nil
  go_simp
  (try go_simp)
  refine hK.out _ _ (hHeld.kp ((Kp.refl [] _).alloc _)) (fun hHeld => ?_)
  clear hK K'
  try simp only [Act.put, List.setIfInBounds_toArray, List.set_cons_zero, List.set_cons_succ]
  refine wpAnyH_take (i := 7) (oi := { dst := some 11, op := Op.assign (Operand.tmp 59), type := 106, pos := "parcel.go:157", after := #[{ on := 6, ground := Ground.data }, { on := 0, ground := Ground.phase }, { on := 1, ground := Ground.phase }, { on := 2, ground := Ground.phase }, { on := 3, ground := Ground.phase }, { on := 4, ground := Ground.phase }, { on := 5, ground := Ground.phase }, { on := 6, ground := Ground.phase }], guard := none }) (v := .pointer (some ⟨W6.heap.size + 1, 0, none⟩)) rfl (by kernel_rfl) (by kernel_rfl) (by kernel_rfl) (fun _ _ _ h => h) (Or.inl ⟨by rfl, by intro w hSw; (try dsimp only at hSw); go_simp⟩) (by assumption) ?_
  try simp only [Act.put, List.setIfInBounds_toArray, List.set_cons_zero, List.set_cons_succ]
  refine wpAnyH_done (by kernel_rfl) ?_ _
  refine NoPanic.normal ?_
  have HPC7 := Lib.hid (pc_new HADX.out HQ.out HN1.out.1 HN1.out.2.1)
  have HAD7 := Lib.hid hHeld
  have HLC : Hid (w.heap.size ≤ W6.heap.size ∧ ∀ b, Option.some b = Value.ownBlock (.slice a1 q.cont.length c1) → b < W6.heap.size) := Lib.hid ⟨HADX.out.k.size, fun b hb => by have h1 := (HADX.out.lc b hb.symm).2; have h2 := (Array.getElem?_eq_some_iff.1 HADX.out.x.h).1; omega⟩
  clear hHeld hmk hbd HADX
  generalize (W6.alloc (.cells (Array.replicate n (Value.pointer none)) 110)).alloc (.cells (bv q.sum ++ [Value.slice (some ⟨W6.heap.size, 0, none⟩) n n]).toArray 109) = W7 at *
  generalize W6.heap.size + 1 = pb at *
  generalize W6.heap.size = ab at *
  have HIX : Hid ((List.replicate n (none : Option (List UInt8)))[q.idx.toNat]? = some none) := Lib.hid (HW0.out _ HN1.out.2.2.1)
  have HIXL : Hid (q.idx.toNat < (List.replicate n (none : Option (List UInt8))).length) := Lib.hid (by rw [List.length_replicate]; exact HN1.out.2.2.1)
  have HGA : Hid (¬ G ab) := Lib.hid (fun hg => absurd (HGL.out _ hg) (Nat.not_lt.2 HLC.out.1))
  have hmb : (((nv (missL (List.replicate n (none : Option (List UInt8))))).length : Int) == 1) = true := by rw [nv_len]; rw [HW.out]; rfl
  have HMI : Hid (Calls Tryd.prog 51 #[.pointer (some ⟨pb, 0, none⟩)] W7 fun e w' => ∃ v, e = .returned v ∧ Own w' W7.heap.size 3 v (nv (missL (List.replicate n (none : Option (List UInt8))))) ∧ Kp [] W7 w') := Lib.hid (missing_any _ _ _ _ _ _ HPC7.out)
  go_wp2_with (first
    | (go_at_call 51; go_must (refine HMI.out.mono ?_; rintro e w8 ⟨v8, rfl, ho8, hk8⟩; obtain ⟨a8, c8, rfl⟩ := ho8.rd.form; have HAD8 := Lib.hid (HAD7.out.kp hk8); have HPC8 := Lib.hid (HPC7.out.kp0 hk8); clear ho8 hk8))
    | fail)
  clear HAD7 HPC7 HMI
  have HTX : Hid (∀ W, PcAt W (Gn G w ab) pb ab q.sum (List.replicate n (none : Option (List UInt8))) → PartAt W xb q (.slice a1 q.cont.length c1) → Calls Tryd.prog 52 #[.pointer (some ⟨pb, 0, none⟩), .pointer (some ⟨xb, 0, none⟩)] W fun e w' => ∃ v, e = .returned v ∧ Cut w' W.heap.size v (textL ((List.replicate n (none : Option (List UInt8))).set q.idx.toNat (some q.cont))) ∧ Kp [] W w') := Lib.hid (fun W h1 h2 => text_with _ _ _ _ _ xb q (.slice a1 q.cont.length c1) q.idx.toNat W h1 h2 (by have := HQ.out.i0; omega) (miss_one HW.out HIX.out))
  have HTL : Hid ((textL ((List.replicate n (none : Option (List UInt8))).set q.idx.toNat (some q.cont))).length ≤ 562949953421312) := Lib.hid (by have h1 := textL_len ((List.replicate n (none : Option (List UInt8))).set q.idx.toNat (some q.cont)) (fun c hc => by rcases List.mem_or_eq_of_mem_set hc with hc | hc; exact HPC8.out.short c hc; cases hc; exact HQ.out.l); have h2 := HPC8.out.hn.2; rw [List.length_set] at h1; omega)
  have HSL : Hid (q.sum.length = 8) := Lib.hid HPC8.out.hs
  have HMN := Lib.hid (HML.out (textL ((List.replicate n (none : Option (List UInt8))).set q.idx.toNat (some q.cont))))
  have hne := fun W => mark_other (mk (textL ((List.replicate n (none : Option (List UInt8))).set q.idx.toNat (some q.cont)))) q.sum HMN.out HSL.out HS.out W
  have hu1 := Tryd.underlying88
  have hi1 : (Tryd.prog.info? 88).map (·.size) = some (bv q.sum).length := by rw [bv_length, HSL.out]; kernel_rfl
  refine wp_region_noPanic ?_
  refine wp_region_held_drew (S := fun w' => AD w w' G t most B Z xb nb q (.slice a1 q.cont.length c1) p ∧ PcAt w' (Gn G w ab) pb ab q.sum (List.replicate n (none : Option (List UInt8)))) (by kernel_rfl) (⟨HAD8.out.drew, HPC8.out.kp0 ((Kp.refl [] w8).drew)⟩) (fun hHeld => ?_)
  clear hmb
  refine wpAnyH_take (i := 0) (oi := { dst := some 92, op := Op.move (Operand.tmp 7), type := 4, pos := "parcel.go:164", after := #[], guard := none }) (v := .bool true) rfl (by kernel_rfl) (by kernel_rfl) (by kernel_rfl) (fun _ _ _ h => h) (Or.inl ⟨by rfl, by intro w hSw; (try dsimp only at hSw); go_simp⟩) (by assumption) ?_
  try simp only [Act.put, List.setIfInBounds_toArray, List.set_cons_zero, List.set_cons_succ]
  refine wpAnyH_take (i := 1) (oi := { dst := some 93, op := Op.move (Operand.tmp 92), type := 4, pos := "parcel.go:164", after := #[{ on := 0, ground := Ground.data }], guard := none }) (v := .bool true) rfl (by kernel_rfl) (by kernel_rfl) (by kernel_rfl) (fun _ _ _ h => h) (Or.inl ⟨by rfl, by intro w hSw; (try dsimp only at hSw); go_simp⟩) (by assumption) ?_
  try simp only [Act.put, List.setIfInBounds_toArray, List.set_cons_zero, List.set_cons_succ]
  refine wpAnyH_take (i := 2) (oi := { dst := some 94, op := Op.move (Operand.tmp 11), type := 106, pos := "parcel.go:164", after := #[{ on := 1, ground := Ground.guard }], guard := some (1, true) }) (v := .pointer (some ⟨pb, 0, none⟩)) rfl (by kernel_rfl) (by kernel_rfl) (by kernel_rfl) (fun _ _ _ h => h) (Or.inl ⟨by rfl, by intro w hSw; (try dsimp only at hSw); go_simp⟩) (by assumption) ?_
  try simp only [Act.put, List.setIfInBounds_toArray, List.set_cons_zero, List.set_cons_succ]
  refine wpAnyH_take (i := 5) (oi := { dst := some 97, op := Op.move (Operand.tmp 11), type := 106, pos := "parcel.go:164", after := #[{ on := 1, ground := Ground.guard }], guard := some (1, true) }) (v := .pointer (some ⟨pb, 0, none⟩)) rfl (by kernel_rfl) (by kernel_rfl) (by kernel_rfl) (fun _ _ _ h => h) (Or.inl ⟨by rfl, by intro w hSw; (try dsimp only at hSw); go_simp⟩) (by assumption) ?_
  try simp only [Act.put, List.setIfInBounds_toArray, List.set_cons_zero, List.set_cons_succ]
  refine wpAnyH_take (i := 6) (oi := { dst := some 98, op := Op.nilCheck (Operand.tmp 97), type := 0, pos := "parcel.go:164", after := #[{ on := 5, ground := Ground.data }, { on := 1, ground := Ground.guard }], guard := some (1, true) }) (v := .pointer (some ⟨pb, 0, none⟩)) rfl (by kernel_rfl) (by kernel_rfl) (by kernel_rfl) (fun _ _ _ h => h) (Or.inl ⟨by rfl, by intro w hSw; (try dsimp only at hSw); go_simp⟩) (by assumption) ?_
  try simp only [Act.put, List.setIfInBounds_toArray, List.set_cons_zero, List.set_cons_succ]
  refine wpAnyH_take (i := 7) (oi := { dst := some 99, op := Op.fieldAddr 109 (Operand.tmp 98) 0, type := 0, pos := "parcel.go:164", after := #[{ on := 6, ground := Ground.data }, { on := 1, ground := Ground.guard }], guard := some (1, true) }) (v := .pointer (some ⟨pb, 0, none⟩)) rfl (by kernel_rfl) (by kernel_rfl) (by kernel_rfl) (fun _ _ _ h => h) (Or.inl ⟨by rfl, by intro w hSw; (try dsimp only at hSw); go_simp⟩) (by assumption) ?_
  try simp only [Act.put, List.setIfInBounds_toArray, List.set_cons_zero, List.set_cons_succ]
  refine wpAnyH_take (i := 8) (oi := { dst := some 100, op := Op.load 88 (Operand.tmp 99), type := 88, pos := "parcel.go:164", after := #[{ on := 7, ground := Ground.data }, { on := 1, ground := Ground.guard }], guard := some (1, true) }) (v := .agg (bv q.sum).toArray) rfl (by kernel_rfl) (by kernel_rfl) (by kernel_rfl) (fun _ _ _ h => h) (yieldsIf_load_mid (by rfl) 88 (.tmp 99) (by rfl) pb 0 (by rfl) (bv q.sum) _ (fun w h => h.2.range) hu1 rfl hi1) (by assumption) ?_
  try simp only [Act.put, List.setIfInBounds_toArray, List.set_cons_zero, List.set_cons_succ]
  refine wpAnyH_ready (rs := [3]) (by kernel_rfl) (by simp) ?_
  refine AllReadyH.cons (o := { dst := some 95, op := Op.call { callee := Callee.value (Operand.func 52), args := #[Operand.tmp 94, Operand.tmp 9], argTypes := #[106, 110] }, type := 27, pos := "parcel.go:164", after := #[{ on := 2, ground := Ground.data }, { on := 1, ground := Ground.chain }, { on := 1, ground := Ground.guard }], guard := some (1, true) }) rfl (fun K' hK => ?_) AllReadyH.nil
  go_simp
  refine (HTX.out _ hHeld.2 hHeld.1.x).mono ?_
  rintro e w4 ⟨v4, rfl, hcu4, hk4⟩
  have HCU := Lib.hid hcu4
  have hm4 : AD w w4 G t most B Z xb nb q (.slice a1 q.cont.length c1) p ∧ PcAt w4 (Gn G w ab) pb ab q.sum (List.replicate n (none : Option (List UInt8))) := ⟨hHeld.1.kp hk4, hHeld.2.kp0 hk4⟩
  clear hk4 hHeld hcu4
  (try go_simp)
  refine hK.out _ _ (hm4) (fun hHeld => ?_)
  clear hK K'
  try simp only [Act.put, List.setIfInBounds_toArray, List.set_cons_zero, List.set_cons_succ]
  refine wpAnyH_ready (rs := [4]) (by kernel_rfl) (by simp) ?_
  refine AllReadyH.cons (o := { dst := some 96, op := Op.call { callee := Callee.value (Operand.func 43), args := #[Operand.tmp 95], argTypes := #[27] }, type := 88, pos := "parcel.go:164", after := #[{ on := 3, ground := Ground.data }, { on := 3, ground := Ground.chain }, { on := 1, ground := Ground.guard }], guard := some (1, true) }) rfl (fun K' hK => ?_) AllReadyH.nil
  go_simp
  refine (HTB.out w4 v4 _ hm4.1.k HCU.out.rd HTL.out).mono ?_
  rintro e w5 ⟨rfl, hk5⟩
  have hm5 : AD w w5 G t most B Z xb nb q (.slice a1 q.cont.length c1) p ∧ PcAt w5 (Gn G w ab) pb ab q.sum (List.replicate n (none : Option (List UInt8))) := ⟨hm4.1.kp hk5, hm4.2.kp0 hk5⟩
  clear hk5 hm4 HCU hHeld
  (try go_simp)
  refine hK.out _ _ (hm5) (fun hHeld => ?_)
  clear hK K'
  try simp only [Act.put, List.setIfInBounds_toArray, List.set_cons_zero, List.set_cons_succ]
  refine wpAnyH_take (i := 9) (oi := { dst := some 101, op := Op.binOp BinOp.neq 88 (Operand.tmp 96) (Operand.tmp 100) 88, type := 4, pos := "parcel.go:164", after := #[{ on := 4, ground := Ground.data }, { on := 8, ground := Ground.data }, { on := 1, ground := Ground.guard }], guard := some (1, true) }) (v := .bool true) rfl (by kernel_rfl) (by kernel_rfl) (by kernel_rfl) (fun _ _ _ h => h) (Or.inl ⟨by rfl, by intro w hSw; (try dsimp only at hSw); go_simp⟩) (by assumption) ?_
  try simp only [Act.put, List.setIfInBounds_toArray, List.set_cons_zero, List.set_cons_succ]
  refine wpAnyH_take (i := 10) (oi := { dst := some 102, op := Op.pick (Operand.tmp 93) (Operand.tmp 101) (Operand.const (Value.bool false)), type := 4, pos := "parcel.go:164", after := #[{ on := 1, ground := Ground.data }, { on := 9, ground := Ground.data }], guard := none }) (v := .bool true) rfl (by kernel_rfl) (by kernel_rfl) (by kernel_rfl) (fun _ _ _ h => h) (Or.inl ⟨by rfl, by intro w hSw; (try dsimp only at hSw); go_simp⟩) (by assumption) ?_
  try simp only [Act.put, List.setIfInBounds_toArray, List.set_cons_zero, List.set_cons_succ]
  refine wpAnyH_done (by kernel_rfl) ?_ _
  refine NoPanic.normal ?_
  have HK := Lib.hid hHeld.1.k
  clear hHeld hm5
  go_wp2_with fail
  go_ret3
  exact ⟨rfl, HK.out⟩
end Go.Proofs.YtkceaepbjdfccaaDoor
