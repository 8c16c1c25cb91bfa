/-
(*parcel.Tray).Add: the walks.
-/
import Derived.Test.YtkceaepbjdfccaaDoorPar11
namespace Go.Proofs.YtkceaepbjdfccaaDoor
open Go.RowKit
/-- what Add's walks lean on -/
structure AH (mk : List UInt8 → List UInt8) (w : World) (G : Nat → Prop) (t : Nat) (most : Int) (B : Nat) (Z : List Zt) (p : List UInt8) (v : Value) (q : Prt) : Prop where
  hn : Calls Tryd.prog 49 #[.string (strOf p)] w fun e w' => e = .returned (.int .i64 0) ∧ w = w'
  hr : Calls Tryd.prog 50 #[v] w fun e w' => ∃ a c, e = .returned (.tuple #[.agg (pcl q.id q.cnt q.idx q.sum (.slice a q.cont.length c)).toArray, .int .i64 0]) ∧ Own w' w.heap.size 5 (.slice a q.cont.length c) (bv q.cont) ∧ Kp [] w w'
  z : TRz w G t most B Z
  qo : Qok q
  ko : Kok (p, q.id)
  mc : ∀ W v l, Kp [] w W → Rd W v (bv l) → l.length ≤ 562949953421312 → Calls Tryd.prog 43 #[v] W fun e w' => e = .returned (.agg (bv (mk l)).toArray) ∧ Kp [] W w'
  ml : ∀ l, (mk l).length = 8
  gl : ∀ b, G b → b < w.heap.size
theorem run_build_parcel (W : World) (s : List UInt8) (hs : s.length = 8) (a : Option Addr) (n c : Nat) :
    (Instr.build 109 #[(0, .agg (bv s).toArray), (1, .slice a n c)]).run Tryd.prog W = .ok (.agg (bv s ++ [Value.slice a n c]).toArray) W := by
  obtain ⟨x0, x1, x2, x3, x4, x5, x6, x7, rfl⟩ : ∃ x0 x1 x2 x3 x4 x5 x6 x7, s = [x0, x1, x2, x3, x4, x5, x6, x7] := by
    match s, hs with
    | [x0, x1, x2, x3, x4, x5, x6, x7], _ => exact ⟨_, _, _, _, _, _, _, _, rfl⟩
  exact run_build W _ _ _ (by kernel_rfl)
theorem exec_build {P : Program} {a : Act} {o : Oper} {t : TypeId} {parts : Array (Nat × Operand)} {w : World} {r : Value} (ho : o.op = .build t parts) (h : (Instr.build t (parts.map fun (i, x) => (i, a.eval x))).run P w = .ok r w) :
    (execOp a.eval o).run P w = .ok (.value r) w := by
  unfold execOp
  simp only [ho, Sem.run_bind, h, Result.andThen_ok]
  rfl
set_option maxRecDepth 100000 in
set_option maxHeartbeats 2000000 in
theorem add_full (mk : List UInt8 → List UInt8) (w : World) (G : Nat → Prop) (t : Nat) (most : Int) (B : Nat) (Z : List Zt) (p : List UInt8) (v : Value) (q : Prt) (h : AH mk w G t most B Z p v q) (hz : findZ Z (p, q.id) = none) (hf : most ≤ Z.length) : Calls Tryd.prog 26 #[.pointer (some ⟨t, 0, none⟩), .string (strOf p), v] w fun e w' => e = .returned (.tuple #[.int .u32 0, .bool false, .int .i64 120]) ∧ Kp [] w w' := by
  have HN := Lib.hid h.hn
  have HRD := Lib.hid h.hr
  have HZ0 := Lib.hid h.z
  have HQ := Lib.hid h.qo
  have HKO := Lib.hid h.ko
  have HTB := Lib.hid h.mc
  have HML := Lib.hid h.ml
  have HGL := Lib.hid h.gl
  have HLK : Hid (∀ W, TRz W G t most B Z → (Instr.lookup 97 (.map (some B)) (.agg #[.string (strOf p), .int .u32 q.id]) false).run Tryd.prog W = .ok (.pointer none) W) := Lib.hid (fun W hW => by have := hW.m.lookup (k := (p, q.id)) h.ko; rw [lookK_Zk, hz] at this; exact this)
  clear h
  go_enter Tryd.func26, Tryd.ntmps26
  go_wp2_with (first
    | (go_at_call 49; go_must (refine HN.out.mono ?_; rintro e w1 ⟨rfl, rfl⟩))
    | (go_at_call 50; go_must (refine HRD.out.mono ?_; rintro e w1 ⟨a1, c1, rfl, ho1, hk1⟩; have HO1 := Lib.hid ho1; have HK1 := Lib.hid hk1; clear ho1 hk1))
    | ((with_reducible show wpList _ _ _ ({ dst := none, op := Op.store _ (.tmp 9) (.tmp 20), type := _, pos := _, after := _, guard := _ } :: _) _ _); go_must ((with_reducible refine wpList_store_row ?b1 101 (.tmp 9) (.tmp 20) ?b2 w1.heap.size (pcl q.id q.cnt q.idx q.sum (.slice a1 q.cont.length c1)).toArray ?b3 ?b4 101 (pcl 0 0 0 s8 (.slice none 0 0)).toArray ?b5 ?b6 ?b7 ?b8 ?b9); (case b1 => rfl); (case b2 => rfl); (case b3 => rfl); (case b4 => rfl); (case b5 => exact heap_alloc_new w1 _); (case b6 => (rw [List.size_toArray, pcl_len _ _ _ _ _ HQ.out.s]; kernel_rfl)); (case b7 => (rw [List.size_toArray, List.size_toArray, pcl_len _ _ _ _ _ HQ.out.s]; rfl)); (case b8 => exact all_oneCell_toArray (pcl_one _ _ _ _ a1 (_, _))); change wpList _ _ _ _ _ ((w1.alloc (.cells (pcl 0 0 0 s8 (.slice none 0 0)).toArray 101)).setRow w1.heap.size (pcl q.id q.cnt q.idx q.sum (.slice a1 q.cont.length c1)).toArray); have HAD := Lib.hid (ad_start (p := p) (O := (pcl 0 0 0 s8 (.slice none 0 0)).toArray) HZ0.out HQ.out HK1.out HO1.out (W2 := (w1.alloc (.cells (pcl 0 0 0 s8 (.slice none 0 0)).toArray 101)).setRow w1.heap.size (pcl q.id q.cnt q.idx q.sum (.slice a1 q.cont.length c1)).toArray) rfl); have c0 : ((w1.alloc (.cells (pcl 0 0 0 s8 (.slice none 0 0)).toArray 101)).setRow w1.heap.size (pcl q.id q.cnt q.idx q.sum (.slice a1 q.cont.length c1)).toArray).cell? ⟨w1.heap.size, 0, none⟩ = some (.int .u32 q.id) := (by rw [cell_of_row _ w1.heap.size 0 _ _ _ (setRow_heap _ _ _ _ _ _ (heap_alloc_new w1 _))]; rfl); generalize (w1.alloc (.cells (pcl 0 0 0 s8 (.slice none 0 0)).toArray 101)).setRow w1.heap.size (pcl q.id q.cnt q.idx q.sum (.slice a1 q.cont.length c1)).toArray = W2 at *))
    | fail)
  generalize w1.heap.size = xb at *
  generalize W2.heap.size = nb at *
  generalize W2.alloc (.cells #[.string (strOf p), .int .u32 q.id] 105) = W3 at *
  clear c0 HO1 HK1
  obtain ⟨ct0, ct1, cn0, cn1, cx0, cx1, cx2⟩ := HAD.out.c0
  have hlk : ∀ n, (Instr.lookup 97 (.map (some B)) (.agg #[.string (strOf p), .int .u32 q.id]) false).run Tryd.prog (W3.drewN n) = .ok (.pointer none) (W3.drewN n) := fun n => HLK.out _ (HAD.out.z.kp0 ((Kp.refl [] W3).drewN n))
  go_quiet (fail)
  have HAD4 := Lib.hid (HAD.out.kp ((Kp.refl [] W3).drewN nq))
  clear hlk HAD HLK ct0 ct1 cn0 cn1 cx0 cx1 cx2
  generalize W3.drewN nq = W4 at *
  obtain ⟨ct0, ct1, cn0, cn1, cx0, cx1, cx2⟩ := HAD4.out.c0
  have hlen : ∀ n ty, (Builtin.len_ #[97] ty #[.map (some B)]).run Tryd.prog (W4.drewN n) = .ok (.int .i64 (Zk Z).length) (W4.drewN n) := fun n ty => (HAD4.out.z.kp0 ((Kp.refl [] W4).drewN n)).m.len ty
  have hfl : most ≤ ((Zk Z).length : Int) := by unfold Zk; rw [List.length_map]; exact hf
  clear hf hz
  go_wp2_with fail
  go_quiet (fail)
  go_wp2_with fail
  go_ret3
  exact ⟨rfl, HAD4.out.k.drewN nq⟩
end Go.Proofs.YtkceaepbjdfccaaDoor
