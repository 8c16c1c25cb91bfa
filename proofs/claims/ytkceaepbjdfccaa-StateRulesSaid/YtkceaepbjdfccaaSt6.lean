/-
state.Check.
-/
import Derived.Test.YtkceaepbjdfccaaSt4
namespace Go.Proofs.Ytkceaepbjdfccaa
open Go.RowKit
/-- does the hello fit? -/
def St.grt (S : St) : Bool := decide S.noHello || (decide (S.hid ≠ z32) && (decide (S.turns = 0) && decide (S.hid = S.bind.take 32)))
def St.err (S : St) (v : Bool) : Int := if (v && S.grt) = true then 0 else 180
theorem eq_key2 (l m : List Int) (hl : l.length = 32) (hm : m.length = 32) (W : World) : (binOp .eql 37 (.agg (iv l).toArray) (.agg (iv m).toArray)).run Try.prog W = .ok (.bool (decide (l = m))) W := by
  rw [run_eql_struct, run_eq_bytes 9998 32 37 l m hl hm Try.underlying37]
  rfl
theorem eq_none (S : St) (hS : S.ok) (W : World) : (binOp .eql 42 (.agg (hel S.hid S.ho S.hp).toArray) (.agg Try.zeroCells42)).run Try.prog W = .ok (.bool (decide S.noHello)) W := by
  have e : Try.zeroCells42 = (hel z32 z32 0).toArray := by kernel_rfl
  rw [e, run_eql_struct, run_eq_hello 9997 S.hid S.ho z32 z32 S.hp 0 hS.li hS.lo rfl rfl, show (decide (S.hid = z32) && (decide (S.ho = z32) && decide (S.hp = 0))) = decide S.noHello by rw [Bool.eq_iff_iff, Bool.and_eq_true, Bool.and_eq_true, decide_eq_true_iff, decide_eq_true_iff, decide_eq_true_iff, decide_eq_true_iff]; exact Iff.rfl]
  rfl
/-- a state in K, its hello in the block behind it -/
structure CM (w W : World) (K : Nat) (S : St) : Prop where
  k : Kp [] w W
  s : StAt W K S
  h : W.heap[K + 1]? = some (.cells (hel S.hid S.ho S.hp).toArray 42 (0, 0))
theorem CM.kp {w W W' : World} {K : Nat} {S : St} (h : CM w W K S) (k : Kp [] W W') : CM w W' K S := ⟨h.k.trans0 k, h.s.kp k (by simp), k.heap h.h (by simp)⟩
theorem CM.drewN {w W : World} {K : Nat} {S : St} (h : CM w W K S) (n : Nat) : CM w (W.drewN n) K S := ⟨h.k.drewN n, h.s.drewN n, h.h⟩
theorem CM.drew {w W : World} {K : Nat} {S : St} (h : CM w W K S) : CM w W.drew K S := ⟨h.k.drew, h.s.drew, h.h⟩
theorem CM.hid {w W : World} {K : Nat} {S : St} (h : CM w W K S) : W.rangeAt (K + 1) 0 (iv S.hid) := by
  have h1 := h.h
  rw [hel, ← List.nil_append (iv S.hid ++ _)] at h1
  exact cells_range h1 0 rfl
theorem CM.all {w W : World} {K : Nat} {S : St} (h : CM w W K S) : W.rangeAt (K + 1) 0 (hel S.hid S.ho S.hp) := by
  have h1 := h.h
  rw [← List.append_nil (hel S.hid S.ho S.hp), ← List.nil_append (hel S.hid S.ho S.hp ++ [])] at h1
  exact cells_range h1 0 rfl
theorem cm_start (w : World) (S : St) (hS : S.ok) (Z : Array Value) : CM w (((w.alloc (.cells S.cl.toArray 45)).alloc (.cells Z 42)).setRow (w.heap.size + 1) (hel S.hid S.ho S.hp).toArray) w.heap.size S := by
  have k0 : Kp [] w ((w.alloc (.cells S.cl.toArray 45)).alloc (.cells Z 42)) := ((Kp.refl [] w).alloc _).alloc _
  have k1 := kp_setRow1 ((w.alloc (.cells S.cl.toArray 45)).alloc (.cells Z 42)) (w.heap.size + 1) (hel S.hid S.ho S.hp).toArray
  exact ⟨k0.trans k1 (fun m hm => by rw [List.mem_singleton] at hm; subst hm; exact .inr (by omega)), ⟨k1.heap (heap_alloc2_old w _ _) (by simp), hS⟩, setRow_heap _ _ _ _ _ _ (heap_alloc2_new w _ _)⟩
theorem StAt.all {w : World} {g : Nat} {S : St} (h : StAt w g S) : w.rangeAt g 0 S.cl := by
  have h1 := h.hp
  rw [← List.append_nil S.cl, ← List.nil_append (S.cl ++ [])] at h1
  exact cells_range h1 0 rfl
set_option maxRecDepth 100000 in
set_option maxHeartbeats 1000000 in
theorem check_of (S : St) (hS : S.ok) (v : Bool) (hc : ∀ W, Calls Try.prog 50 #[.agg S.cl.toArray] W fun e w' => e = .returned (.bool v) ∧ Kp [] W w') (w : World) :
    Calls Try.prog 19 #[.agg S.cl.toArray] w fun e w' => e = .returned (.int .i64 (S.err v)) ∧ Kp [] w w' := by
  have HO := Lib.hid hS
  have HCN := Lib.hid hc
  have HFI := Lib.hid (fun W => first_any S hS W)
  have HZH : Hid ((hel S.hid S.ho S.hp).toArray.size = 65) := Lib.hid (by rw [List.size_toArray, hel_len _ _ _ hS.li hS.lo])
  have HVH : Hid ((hel S.hid S.ho S.hp).toArray.all (·.oneCell') = true) := Lib.hid (all_oneCell_toArray (fun v hv => by
    simp only [hel, List.mem_append, List.mem_singleton] at hv
    rcases hv with h | h | rfl
    · exact iv_one _ _ h
    · exact iv_one _ _ h
    · rfl))
  have HZS : Hid (S.cl.toArray.size = 343) := Lib.hid (by rw [List.size_toArray, St.cl_len hS])
  have hh0 : (w.alloc (.cells S.cl.toArray 45)).rangeAt w.heap.size 214 (hel S.hid S.ho S.hp) := StAt.hello ⟨heap_alloc_new w _, hS⟩
  have HH0 := Lib.hid hh0
  clear hh0
  have m1 : Try.prog.eqGuardType Try.prog.depth 37 = false := by kernel_rfl
  have m2 : Try.prog.eqGuardType Try.prog.depth 42 = false := by kernel_rfl
  have eh := fun W => eq_none S HO.out W
  have er := fun W => ne_key S.hid HO.out.li W
  have ef := fun W => eq_key2 S.hid (S.bind.take 32) HO.out.li (by rw [List.length_take, HO.out.lb]; rfl) W
  go_enter Try.func19, Try.ntmps19
  go_upto_block 0 with (first
    | (refine wpList_load_mid (by rfl) 42 (.tmp 5) (by rfl) w.heap.size 214 (by rfl) (hel S.hid S.ho S.hp) _ HH0.out Try.underlying42 rfl (by rw [hel_len _ _ _ HO.out.li HO.out.lo]; kernel_rfl) ?_)
    | (refine wpList_store_row (by rfl) 42 (.tmp 3) (.tmp 6) (by rfl) (w.heap.size + 1) (hel S.hid S.ho S.hp).toArray (by rfl) (by rfl) 42 _ (heap_alloc2_new w _ _) (by rw [HZH.out]; kernel_rfl) (by rw [HZH.out]; rfl) HVH.out ?_))
  have HM : Hid (CM w _ w.heap.size S) := Lib.hid (cm_start w S hS #[.int .u8 0, .int .u8 0, .int .u8 0, .int .u8 0, .int .u8 0, .int .u8 0, .int .u8 0, .int .u8 0, .int .u8 0, .int .u8 0, .int .u8 0, .int .u8 0, .int .u8 0, .int .u8 0, .int .u8 0, .int .u8 0, .int .u8 0, .int .u8 0, .int .u8 0, .int .u8 0, .int .u8 0, .int .u8 0, .int .u8 0, .int .u8 0, .int .u8 0, .int .u8 0, .int .u8 0, .int .u8 0, .int .u8 0, .int .u8 0, .int .u8 0, .int .u8 0, .int .u8 0, .int .u8 0, .int .u8 0, .int .u8 0, .int .u8 0, .int .u8 0, .int .u8 0, .int .u8 0, .int .u8 0, .int .u8 0, .int .u8 0, .int .u8 0, .int .u8 0, .int .u8 0, .int .u8 0, .int .u8 0, .int .u8 0, .int .u8 0, .int .u8 0, .int .u8 0, .int .u8 0, .int .u8 0, .int .u8 0, .int .u8 0, .int .u8 0, .int .u8 0, .int .u8 0, .int .u8 0, .int .u8 0, .int .u8 0, .int .u8 0, .int .u8 0, .int .u32 0])
  generalize hK : w.heap.size = K at *
  clear hK HH0
  have HM : Hid (CM w _ K S) := HM
  have hu1 := Try.underlying37
  have hu2 := Try.underlying42
  have hu3 := Try.underlying45
  have hi1 : (Try.prog.info? 37).map (·.size) = some (iv S.hid).length := by rw [iv_length, HO.out.li]; kernel_rfl
  have hi2 : (Try.prog.info? 42).map (·.size) = some (hel S.hid S.ho S.hp).length := by rw [hel_len _ _ _ HO.out.li HO.out.lo]; kernel_rfl
  have hi3 : (Try.prog.info? 45).map (·.size) = some S.cl.length := by rw [St.cl_len HO.out]; kernel_rfl
  by_cases hh : S.noHello
  · have q0 : decide S.noHello = true := by simpa using hh
    have HE : Hid (S.err v = if v = true then 0 else 180) := Lib.hid (by unfold St.err St.grt; simp [hh])
    clear hh
    refine wp_region_noPanic ?_
    refine wp_region_held_drew (S := fun w' => CM w w' K S) (by kernel_rfl) HM.out.drew (fun hHeld => ?_)
    refine wpAnyH_take (i := 0) (oi := { dst := some 7, op := Op.load 42 (Operand.tmp 3), type := 42, pos := "state.go:40", after := #[], guard := none }) (v := .agg (hel S.hid S.ho S.hp).toArray) rfl (by kernel_rfl) (by kernel_rfl) (by kernel_rfl) (fun _ _ _ h => h) (yieldsIf_load_mid (by rfl) 42 (.tmp 3) (by rfl) (K + 1) 0 (by rfl) (hel S.hid S.ho S.hp) _ (fun w h => h.all) hu2 rfl hi2) (by assumption) ?_
    try simp only [Act.put, List.setIfInBounds_toArray, List.set_cons_zero, List.set_cons_succ]
    refine wpAnyH_take (i := 1) (oi := { dst := some 8, op := Op.build 42 #[], type := 42, pos := "state.go:40", after := #[], guard := none }) (v := .agg Try.zeroCells42) rfl (by kernel_rfl) (by kernel_rfl) (by kernel_rfl) (fun _ _ _ h => h) (Or.inl ⟨by rfl, by intro w hSw; (try dsimp only at hSw); (try have hSt := hSw.s.turns); go_simp⟩) (by assumption) ?_
    try simp only [Act.put, List.setIfInBounds_toArray, List.set_cons_zero, List.set_cons_succ]
    refine wpAnyH_take (i := 2) (oi := { dst := some 9, op := Op.binOp BinOp.eql 42 (Operand.tmp 7) (Operand.tmp 8) 42, type := 4, pos := "state.go:40", after := #[{ on := 0, ground := Ground.data }, { on := 1, ground := Ground.data }], guard := none }) (v := .bool true) rfl (by kernel_rfl) (by kernel_rfl) (by kernel_rfl) (fun _ _ _ h => h) (Or.inl ⟨by rfl, by intro w hSw; (try dsimp only at hSw); (try have hSt := hSw.s.turns); go_simp⟩) (by assumption) ?_
    try simp only [Act.put, List.setIfInBounds_toArray, List.set_cons_zero, List.set_cons_succ]
    refine wpAnyH_take (i := 3) (oi := { dst := some 10, op := Op.move (Operand.tmp 9), type := 4, pos := "state.go:40", after := #[{ on := 2, ground := Ground.data }], guard := none }) (v := .bool true) rfl (by kernel_rfl) (by kernel_rfl) (by kernel_rfl) (fun _ _ _ h => h) (Or.inl ⟨by rfl, by intro w hSw; (try dsimp only at hSw); (try have hSt := hSw.s.turns); go_simp⟩) (by assumption) ?_
    try simp only [Act.put, List.setIfInBounds_toArray, List.set_cons_zero, List.set_cons_succ]
    refine wpAnyH_take (i := 4) (oi := { dst := some 11, op := Op.fieldAddr 42 (Operand.tmp 3) 0, type := 0, pos := "state.go:40", after := #[{ on := 3, ground := Ground.guard }], guard := some (3, false) }) (v := undef) rfl (by kernel_rfl) (by kernel_rfl) (by kernel_rfl) (fun _ _ _ h => h) (Or.inr ⟨by rfl, rfl⟩) (by assumption) ?_
    try simp only [Act.put, List.setIfInBounds_toArray, List.set_cons_zero, List.set_cons_succ]
    refine wpAnyH_take (i := 5) (oi := { dst := some 12, op := Op.load 37 (Operand.tmp 11), type := 37, pos := "state.go:40", after := #[{ on := 4, ground := Ground.data }, { on := 3, ground := Ground.guard }], guard := some (3, false) }) (v := undef) rfl (by kernel_rfl) (by kernel_rfl) (by kernel_rfl) (fun _ _ _ h => h) (Or.inr ⟨by rfl, rfl⟩) (by assumption) ?_
    try simp only [Act.put, List.setIfInBounds_toArray, List.set_cons_zero, List.set_cons_succ]
    refine wpAnyH_take (i := 6) (oi := { dst := some 13, op := Op.build 37 #[], type := 37, pos := "state.go:40", after := #[{ on := 3, ground := Ground.guard }], guard := some (3, false) }) (v := undef) rfl (by kernel_rfl) (by kernel_rfl) (by kernel_rfl) (fun _ _ _ h => h) (Or.inr ⟨by rfl, rfl⟩) (by assumption) ?_
    try simp only [Act.put, List.setIfInBounds_toArray, List.set_cons_zero, List.set_cons_succ]
    refine wpAnyH_take (i := 7) (oi := { dst := some 14, op := Op.binOp BinOp.neq 37 (Operand.tmp 12) (Operand.tmp 13) 37, type := 4, pos := "state.go:40", after := #[{ on := 5, ground := Ground.data }, { on := 6, ground := Ground.data }, { on := 3, ground := Ground.guard }], guard := some (3, false) }) (v := undef) rfl (by kernel_rfl) (by kernel_rfl) (by kernel_rfl) (fun _ _ _ h => h) (Or.inr ⟨by rfl, rfl⟩) (by assumption) ?_
    try simp only [Act.put, List.setIfInBounds_toArray, List.set_cons_zero, List.set_cons_succ]
    refine wpAnyH_take (i := 8) (oi := { dst := some 15, op := Op.move (Operand.tmp 14), type := 4, pos := "state.go:40", after := #[{ on := 7, ground := Ground.data }, { on := 3, ground := Ground.chain }, { on := 3, ground := Ground.guard }], guard := some (3, false) }) (v := undef) rfl (by kernel_rfl) (by kernel_rfl) (by kernel_rfl) (fun _ _ _ h => h) (Or.inr ⟨by rfl, rfl⟩) (by assumption) ?_
    try simp only [Act.put, List.setIfInBounds_toArray, List.set_cons_zero, List.set_cons_succ]
    refine wpAnyH_take (i := 9) (oi := { dst := some 16, op := Op.fieldAddr 45 (Operand.tmp 1) 7, type := 0, pos := "state.go:40", after := #[{ on := 8, ground := Ground.guard }], guard := some (8, true) }) (v := undef) rfl (by kernel_rfl) (by kernel_rfl) (by kernel_rfl) (fun _ _ _ h => h) (Or.inr ⟨by rfl, rfl⟩) (by assumption) ?_
    try simp only [Act.put, List.setIfInBounds_toArray, List.set_cons_zero, List.set_cons_succ]
    refine wpAnyH_take (i := 10) (oi := { dst := some 17, op := Op.load 40 (Operand.tmp 16), type := 40, pos := "state.go:40", after := #[{ on := 9, ground := Ground.data }, { on := 8, ground := Ground.guard }], guard := some (8, true) }) (v := undef) rfl (by kernel_rfl) (by kernel_rfl) (by kernel_rfl) (fun _ _ _ h => h) (Or.inr ⟨by rfl, rfl⟩) (by assumption) ?_
    try simp only [Act.put, List.setIfInBounds_toArray, List.set_cons_zero, List.set_cons_succ]
    refine wpAnyH_take (i := 11) (oi := { dst := some 18, op := Op.binOp BinOp.eql 40 (Operand.tmp 17) (Operand.const (Value.int IntKind.u32 0)) 40, type := 4, pos := "state.go:40", after := #[{ on := 10, ground := Ground.data }, { on := 8, ground := Ground.guard }], guard := some (8, true) }) (v := undef) rfl (by kernel_rfl) (by kernel_rfl) (by kernel_rfl) (fun _ _ _ h => h) (Or.inr ⟨by rfl, rfl⟩) (by assumption) ?_
    try simp only [Act.put, List.setIfInBounds_toArray, List.set_cons_zero, List.set_cons_succ]
    refine wpAnyH_take (i := 12) (oi := { dst := some 19, op := Op.pick (Operand.tmp 15) (Operand.tmp 18) (Operand.const (Value.bool false)), type := 4, pos := "state.go:40", after := #[{ on := 8, ground := Ground.data }, { on := 11, ground := Ground.data }, { on := 3, ground := Ground.guard }], guard := some (3, false) }) (v := undef) rfl (by kernel_rfl) (by kernel_rfl) (by kernel_rfl) (fun _ _ _ h => h) (Or.inr ⟨by rfl, rfl⟩) (by assumption) ?_
    try simp only [Act.put, List.setIfInBounds_toArray, List.set_cons_zero, List.set_cons_succ]
    refine wpAnyH_take (i := 13) (oi := { dst := some 20, op := Op.move (Operand.tmp 19), type := 4, pos := "state.go:40", after := #[{ on := 12, ground := Ground.data }, { on := 8, ground := Ground.chain }, { on := 3, ground := Ground.guard }], guard := some (3, false) }) (v := undef) rfl (by kernel_rfl) (by kernel_rfl) (by kernel_rfl) (fun _ _ _ h => h) (Or.inr ⟨by rfl, rfl⟩) (by assumption) ?_
    try simp only [Act.put, List.setIfInBounds_toArray, List.set_cons_zero, List.set_cons_succ]
    refine wpAnyH_take (i := 14) (oi := { dst := some 21, op := Op.fieldAddr 42 (Operand.tmp 3) 0, type := 0, pos := "state.go:40", after := #[{ on := 13, ground := Ground.guard }], guard := some (13, true) }) (v := undef) rfl (by kernel_rfl) (by kernel_rfl) (by kernel_rfl) (fun _ _ _ h => h) (Or.inr ⟨by rfl, rfl⟩) (by assumption) ?_
    try simp only [Act.put, List.setIfInBounds_toArray, List.set_cons_zero, List.set_cons_succ]
    refine wpAnyH_take (i := 15) (oi := { dst := some 22, op := Op.load 37 (Operand.tmp 21), type := 37, pos := "state.go:40", after := #[{ on := 14, ground := Ground.data }, { on := 13, ground := Ground.guard }], guard := some (13, true) }) (v := undef) rfl (by kernel_rfl) (by kernel_rfl) (by kernel_rfl) (fun _ _ _ h => h) (Or.inr ⟨by rfl, rfl⟩) (by assumption) ?_
    try simp only [Act.put, List.setIfInBounds_toArray, List.set_cons_zero, List.set_cons_succ]
    refine wpAnyH_take (i := 16) (oi := { dst := some 23, op := Op.load 45 (Operand.tmp 1), type := 45, pos := "state.go:40", after := #[{ on := 13, ground := Ground.guard }], guard := some (13, true) }) (v := undef) rfl (by kernel_rfl) (by kernel_rfl) (by kernel_rfl) (fun _ _ _ h => h) (Or.inr ⟨by rfl, rfl⟩) (by assumption) ?_
    try simp only [Act.put, List.setIfInBounds_toArray, List.set_cons_zero, List.set_cons_succ]
    refine wpAnyH_take (i := 17) (oi := { dst := some 24, op := Op.call { callee := Callee.value (Operand.func 49), args := #[Operand.tmp 23], argTypes := #[45] }, type := 37, pos := "state.go:40", after := #[{ on := 16, ground := Ground.data }, { on := 13, ground := Ground.chain }, { on := 13, ground := Ground.guard }], guard := some (13, true) }) (v := undef) rfl (by kernel_rfl) (by kernel_rfl) (by kernel_rfl) (fun _ _ _ h => h) (Or.inr ⟨by rfl, rfl⟩) (by assumption) ?_
    try simp only [Act.put, List.setIfInBounds_toArray, List.set_cons_zero, List.set_cons_succ]
    refine wpAnyH_take (i := 18) (oi := { dst := some 25, op := Op.binOp BinOp.eql 37 (Operand.tmp 22) (Operand.tmp 24) 37, type := 4, pos := "state.go:40", after := #[{ on := 15, ground := Ground.data }, { on := 17, ground := Ground.data }, { on := 13, ground := Ground.guard }], guard := some (13, true) }) (v := undef) rfl (by kernel_rfl) (by kernel_rfl) (by kernel_rfl) (fun _ _ _ h => h) (Or.inr ⟨by rfl, rfl⟩) (by assumption) ?_
    try simp only [Act.put, List.setIfInBounds_toArray, List.set_cons_zero, List.set_cons_succ]
    refine wpAnyH_take (i := 19) (oi := { dst := some 26, op := Op.pick (Operand.tmp 20) (Operand.tmp 25) (Operand.const (Value.bool false)), type := 4, pos := "state.go:40", after := #[{ on := 13, ground := Ground.data }, { on := 18, ground := Ground.data }, { on := 3, ground := Ground.guard }], guard := some (3, false) }) (v := undef) rfl (by kernel_rfl) (by kernel_rfl) (by kernel_rfl) (fun _ _ _ h => h) (Or.inr ⟨by rfl, rfl⟩) (by assumption) ?_
    try simp only [Act.put, List.setIfInBounds_toArray, List.set_cons_zero, List.set_cons_succ]
    refine wpAnyH_take (i := 20) (oi := { dst := some 27, op := Op.pick (Operand.tmp 10) (Operand.const (Value.bool true)) (Operand.tmp 26), type := 4, pos := "state.go:40", after := #[{ on := 3, ground := Ground.data }, { on := 19, ground := Ground.data }], guard := none }) (v := .bool true) rfl (by kernel_rfl) (by kernel_rfl) (by kernel_rfl) (fun _ _ _ h => h) (Or.inl ⟨by rfl, by intro w hSw; (try dsimp only at hSw); (try have hSt := hSw.s.turns); go_simp⟩) (by assumption) ?_
    try simp only [Act.put, List.setIfInBounds_toArray, List.set_cons_zero, List.set_cons_succ]
    refine wpAnyH_take (i := 21) (oi := { dst := some 4, op := Op.assign (Operand.tmp 27), type := 4, pos := "state.go:40", after := #[{ on := 20, ground := Ground.data }, { on := 17, ground := Ground.chain }, { on := 0, ground := Ground.phase }, { on := 1, ground := Ground.phase }, { on := 2, ground := Ground.phase }, { on := 3, ground := Ground.phase }, { on := 4, ground := Ground.phase }, { on := 5, ground := Ground.phase }, { on := 6, ground := Ground.phase }, { on := 7, ground := Ground.phase }, { on := 8, ground := Ground.phase }, { on := 9, ground := Ground.phase }, { on := 10, ground := Ground.phase }, { on := 11, ground := Ground.phase }, { on := 12, ground := Ground.phase }, { on := 13, ground := Ground.phase }, { on := 14, ground := Ground.phase }, { on := 15, ground := Ground.phase }, { on := 16, ground := Ground.phase }, { on := 17, ground := Ground.phase }, { on := 18, ground := Ground.phase }, { on := 19, ground := Ground.phase }, { on := 20, ground := Ground.phase }], guard := none }) (v := .bool true) rfl (by kernel_rfl) (by kernel_rfl) (by kernel_rfl) (fun _ _ _ h => h) (Or.inl ⟨by rfl, by intro w hSw; (try dsimp only at hSw); (try have hSt := hSw.s.turns); go_simp⟩) (by assumption) ?_
    try simp only [Act.put, List.setIfInBounds_toArray, List.set_cons_zero, List.set_cons_succ]
    refine wpAnyH_done (by kernel_rfl) ?_ _
    refine NoPanic.normal ?_
    have HM2 := Lib.hid hHeld
    clear hHeld
    cases v with
    | true =>
      go_wp2_with (first
        | (refine wpList_load_row (by rfl) 45 (.tmp 1) (by rfl) K (by rfl) 45 S.cl.toArray (0, 0) _ HM2.out.s.hp Try.underlying45 rfl (by rw [HZS.out]; kernel_rfl) ?_)
        | (go_at_call 50; go_must (refine (HCN.out _).mono ?_; rintro e w5 ⟨rfl, hk5⟩; have HK5 := Lib.hid (HM2.out.k.trans0 hk5); clear hk5)))
      go_ret
      exact ⟨by rw [HE.out]; rfl, HK5.out⟩
    | false =>
      go_wp2_with (first
        | (refine wpList_load_row (by rfl) 45 (.tmp 1) (by rfl) K (by rfl) 45 S.cl.toArray (0, 0) _ HM2.out.s.hp Try.underlying45 rfl (by rw [HZS.out]; kernel_rfl) ?_)
        | (go_at_call 50; go_must (refine (HCN.out _).mono ?_; rintro e w5 ⟨rfl, hk5⟩; have HK5 := Lib.hid (HM2.out.k.trans0 hk5); clear hk5)))
      go_ret
      exact ⟨by rw [HE.out]; rfl, HK5.out⟩
  · have q0 : decide S.noHello = false := by simpa using hh
    by_cases hi : S.hid = z32
    · have q1 : decide (S.hid = z32) = true := by simpa using hi
      have HE : Hid (S.err v = 180) := Lib.hid (by unfold St.err St.grt; simp [hh, hi])
      clear hh hi
      refine wp_region_noPanic ?_
      refine wp_region_held_drew (S := fun w' => CM w w' K S) (by kernel_rfl) HM.out.drew (fun hHeld => ?_)
      refine wpAnyH_take (i := 0) (oi := { dst := some 7, op := Op.load 42 (Operand.tmp 3), type := 42, pos := "state.go:40", after := #[], guard := none }) (v := .agg (hel S.hid S.ho S.hp).toArray) rfl (by kernel_rfl) (by kernel_rfl) (by kernel_rfl) (fun _ _ _ h => h) (yieldsIf_load_mid (by rfl) 42 (.tmp 3) (by rfl) (K + 1) 0 (by rfl) (hel S.hid S.ho S.hp) _ (fun w h => h.all) hu2 rfl hi2) (by assumption) ?_
      try simp only [Act.put, List.setIfInBounds_toArray, List.set_cons_zero, List.set_cons_succ]
      refine wpAnyH_take (i := 1) (oi := { dst := some 8, op := Op.build 42 #[], type := 42, pos := "state.go:40", after := #[], guard := none }) (v := .agg Try.zeroCells42) rfl (by kernel_rfl) (by kernel_rfl) (by kernel_rfl) (fun _ _ _ h => h) (Or.inl ⟨by rfl, by intro w hSw; (try dsimp only at hSw); (try have hSt := hSw.s.turns); go_simp⟩) (by assumption) ?_
      try simp only [Act.put, List.setIfInBounds_toArray, List.set_cons_zero, List.set_cons_succ]
      refine wpAnyH_take (i := 2) (oi := { dst := some 9, op := Op.binOp BinOp.eql 42 (Operand.tmp 7) (Operand.tmp 8) 42, type := 4, pos := "state.go:40", after := #[{ on := 0, ground := Ground.data }, { on := 1, ground := Ground.data }], guard := none }) (v := .bool false) rfl (by kernel_rfl) (by kernel_rfl) (by kernel_rfl) (fun _ _ _ h => h) (Or.inl ⟨by rfl, by intro w hSw; (try dsimp only at hSw); (try have hSt := hSw.s.turns); go_simp⟩) (by assumption) ?_
      try simp only [Act.put, List.setIfInBounds_toArray, List.set_cons_zero, List.set_cons_succ]
      refine wpAnyH_take (i := 3) (oi := { dst := some 10, op := Op.move (Operand.tmp 9), type := 4, pos := "state.go:40", after := #[{ on := 2, ground := Ground.data }], guard := none }) (v := .bool false) rfl (by kernel_rfl) (by kernel_rfl) (by kernel_rfl) (fun _ _ _ h => h) (Or.inl ⟨by rfl, by intro w hSw; (try dsimp only at hSw); (try have hSt := hSw.s.turns); go_simp⟩) (by assumption) ?_
      try simp only [Act.put, List.setIfInBounds_toArray, List.set_cons_zero, List.set_cons_succ]
      refine wpAnyH_take (i := 4) (oi := { dst := some 11, op := Op.fieldAddr 42 (Operand.tmp 3) 0, type := 0, pos := "state.go:40", after := #[{ on := 3, ground := Ground.guard }], guard := some (3, false) }) (v := .pointer (some ⟨K + 1, 0, none⟩)) rfl (by kernel_rfl) (by kernel_rfl) (by kernel_rfl) (fun _ _ _ h => h) (Or.inl ⟨by rfl, by intro w hSw; (try dsimp only at hSw); (try have hSt := hSw.s.turns); go_simp⟩) (by assumption) ?_
      try simp only [Act.put, List.setIfInBounds_toArray, List.set_cons_zero, List.set_cons_succ]
      refine wpAnyH_take (i := 5) (oi := { dst := some 12, op := Op.load 37 (Operand.tmp 11), type := 37, pos := "state.go:40", after := #[{ on := 4, ground := Ground.data }, { on := 3, ground := Ground.guard }], guard := some (3, false) }) (v := .agg (iv S.hid).toArray) rfl (by kernel_rfl) (by kernel_rfl) (by kernel_rfl) (fun _ _ _ h => h) (yieldsIf_load_mid (by rfl) 37 (.tmp 11) (by rfl) (K + 1) 0 (by rfl) (iv S.hid) _ (fun w h => h.hid) hu1 rfl hi1) (by assumption) ?_
      try simp only [Act.put, List.setIfInBounds_toArray, List.set_cons_zero, List.set_cons_succ]
      refine wpAnyH_take (i := 6) (oi := { dst := some 13, op := Op.build 37 #[], type := 37, pos := "state.go:40", after := #[{ on := 3, ground := Ground.guard }], guard := some (3, false) }) (v := .agg #[.int .u8 0, .int .u8 0, .int .u8 0, .int .u8 0, .int .u8 0, .int .u8 0, .int .u8 0, .int .u8 0, .int .u8 0, .int .u8 0, .int .u8 0, .int .u8 0, .int .u8 0, .int .u8 0, .int .u8 0, .int .u8 0, .int .u8 0, .int .u8 0, .int .u8 0, .int .u8 0, .int .u8 0, .int .u8 0, .int .u8 0, .int .u8 0, .int .u8 0, .int .u8 0, .int .u8 0, .int .u8 0, .int .u8 0, .int .u8 0, .int .u8 0, .int .u8 0]) rfl (by kernel_rfl) (by kernel_rfl) (by kernel_rfl) (fun _ _ _ h => h) (Or.inl ⟨by rfl, by intro w hSw; (try dsimp only at hSw); (try have hSt := hSw.s.turns); go_simp⟩) (by assumption) ?_
      try simp only [Act.put, List.setIfInBounds_toArray, List.set_cons_zero, List.set_cons_succ]
      refine wpAnyH_take (i := 7) (oi := { dst := some 14, op := Op.binOp BinOp.neq 37 (Operand.tmp 12) (Operand.tmp 13) 37, type := 4, pos := "state.go:40", after := #[{ on := 5, ground := Ground.data }, { on := 6, ground := Ground.data }, { on := 3, ground := Ground.guard }], guard := some (3, false) }) (v := .bool false) rfl (by kernel_rfl) (by kernel_rfl) (by kernel_rfl) (fun _ _ _ h => h) (Or.inl ⟨by rfl, by intro w hSw; (try dsimp only at hSw); (try have hSt := hSw.s.turns); go_simp⟩) (by assumption) ?_
      try simp only [Act.put, List.setIfInBounds_toArray, List.set_cons_zero, List.set_cons_succ]
      refine wpAnyH_take (i := 8) (oi := { dst := some 15, op := Op.move (Operand.tmp 14), type := 4, pos := "state.go:40", after := #[{ on := 7, ground := Ground.data }, { on := 3, ground := Ground.chain }, { on := 3, ground := Ground.guard }], guard := some (3, false) }) (v := .bool false) rfl (by kernel_rfl) (by kernel_rfl) (by kernel_rfl) (fun _ _ _ h => h) (Or.inl ⟨by rfl, by intro w hSw; (try dsimp only at hSw); (try have hSt := hSw.s.turns); go_simp⟩) (by assumption) ?_
      try simp only [Act.put, List.setIfInBounds_toArray, List.set_cons_zero, List.set_cons_succ]
      refine wpAnyH_take (i := 9) (oi := { dst := some 16, op := Op.fieldAddr 45 (Operand.tmp 1) 7, type := 0, pos := "state.go:40", after := #[{ on := 8, ground := Ground.guard }], guard := some (8, true) }) (v := undef) rfl (by kernel_rfl) (by kernel_rfl) (by kernel_rfl) (fun _ _ _ h => h) (Or.inr ⟨by rfl, rfl⟩) (by assumption) ?_
      try simp only [Act.put, List.setIfInBounds_toArray, List.set_cons_zero, List.set_cons_succ]
      refine wpAnyH_take (i := 10) (oi := { dst := some 17, op := Op.load 40 (Operand.tmp 16), type := 40, pos := "state.go:40", after := #[{ on := 9, ground := Ground.data }, { on := 8, ground := Ground.guard }], guard := some (8, true) }) (v := undef) rfl (by kernel_rfl) (by kernel_rfl) (by kernel_rfl) (fun _ _ _ h => h) (Or.inr ⟨by rfl, rfl⟩) (by assumption) ?_
      try simp only [Act.put, List.setIfInBounds_toArray, List.set_cons_zero, List.set_cons_succ]
      refine wpAnyH_take (i := 11) (oi := { dst := some 18, op := Op.binOp BinOp.eql 40 (Operand.tmp 17) (Operand.const (Value.int IntKind.u32 0)) 40, type := 4, pos := "state.go:40", after := #[{ on := 10, ground := Ground.data }, { on := 8, ground := Ground.guard }], guard := some (8, true) }) (v := undef) rfl (by kernel_rfl) (by kernel_rfl) (by kernel_rfl) (fun _ _ _ h => h) (Or.inr ⟨by rfl, rfl⟩) (by assumption) ?_
      try simp only [Act.put, List.setIfInBounds_toArray, List.set_cons_zero, List.set_cons_succ]
      refine wpAnyH_take (i := 12) (oi := { dst := some 19, op := Op.pick (Operand.tmp 15) (Operand.tmp 18) (Operand.const (Value.bool false)), type := 4, pos := "state.go:40", after := #[{ on := 8, ground := Ground.data }, { on := 11, ground := Ground.data }, { on := 3, ground := Ground.guard }], guard := some (3, false) }) (v := .bool false) rfl (by kernel_rfl) (by kernel_rfl) (by kernel_rfl) (fun _ _ _ h => h) (Or.inl ⟨by rfl, by intro w hSw; (try dsimp only at hSw); (try have hSt := hSw.s.turns); go_simp⟩) (by assumption) ?_
      try simp only [Act.put, List.setIfInBounds_toArray, List.set_cons_zero, List.set_cons_succ]
      refine wpAnyH_take (i := 13) (oi := { dst := some 20, op := Op.move (Operand.tmp 19), type := 4, pos := "state.go:40", after := #[{ on := 12, ground := Ground.data }, { on := 8, ground := Ground.chain }, { on := 3, ground := Ground.guard }], guard := some (3, false) }) (v := .bool false) rfl (by kernel_rfl) (by kernel_rfl) (by kernel_rfl) (fun _ _ _ h => h) (Or.inl ⟨by rfl, by intro w hSw; (try dsimp only at hSw); (try have hSt := hSw.s.turns); go_simp⟩) (by assumption) ?_
      try simp only [Act.put, List.setIfInBounds_toArray, List.set_cons_zero, List.set_cons_succ]
      refine wpAnyH_take (i := 14) (oi := { dst := some 21, op := Op.fieldAddr 42 (Operand.tmp 3) 0, type := 0, pos := "state.go:40", after := #[{ on := 13, ground := Ground.guard }], guard := some (13, true) }) (v := undef) rfl (by kernel_rfl) (by kernel_rfl) (by kernel_rfl) (fun _ _ _ h => h) (Or.inr ⟨by rfl, rfl⟩) (by assumption) ?_
      try simp only [Act.put, List.setIfInBounds_toArray, List.set_cons_zero, List.set_cons_succ]
      refine wpAnyH_take (i := 15) (oi := { dst := some 22, op := Op.load 37 (Operand.tmp 21), type := 37, pos := "state.go:40", after := #[{ on := 14, ground := Ground.data }, { on := 13, ground := Ground.guard }], guard := some (13, true) }) (v := undef) rfl (by kernel_rfl) (by kernel_rfl) (by kernel_rfl) (fun _ _ _ h => h) (Or.inr ⟨by rfl, rfl⟩) (by assumption) ?_
      try simp only [Act.put, List.setIfInBounds_toArray, List.set_cons_zero, List.set_cons_succ]
      refine wpAnyH_take (i := 16) (oi := { dst := some 23, op := Op.load 45 (Operand.tmp 1), type := 45, pos := "state.go:40", after := #[{ on := 13, ground := Ground.guard }], guard := some (13, true) }) (v := undef) rfl (by kernel_rfl) (by kernel_rfl) (by kernel_rfl) (fun _ _ _ h => h) (Or.inr ⟨by rfl, rfl⟩) (by assumption) ?_
      try simp only [Act.put, List.setIfInBounds_toArray, List.set_cons_zero, List.set_cons_succ]
      refine wpAnyH_take (i := 17) (oi := { dst := some 24, op := Op.call { callee := Callee.value (Operand.func 49), args := #[Operand.tmp 23], argTypes := #[45] }, type := 37, pos := "state.go:40", after := #[{ on := 16, ground := Ground.data }, { on := 13, ground := Ground.chain }, { on := 13, ground := Ground.guard }], guard := some (13, true) }) (v := undef) rfl (by kernel_rfl) (by kernel_rfl) (by kernel_rfl) (fun _ _ _ h => h) (Or.inr ⟨by rfl, rfl⟩) (by assumption) ?_
      try simp only [Act.put, List.setIfInBounds_toArray, List.set_cons_zero, List.set_cons_succ]
      refine wpAnyH_take (i := 18) (oi := { dst := some 25, op := Op.binOp BinOp.eql 37 (Operand.tmp 22) (Operand.tmp 24) 37, type := 4, pos := "state.go:40", after := #[{ on := 15, ground := Ground.data }, { on := 17, ground := Ground.data }, { on := 13, ground := Ground.guard }], guard := some (13, true) }) (v := undef) rfl (by kernel_rfl) (by kernel_rfl) (by kernel_rfl) (fun _ _ _ h => h) (Or.inr ⟨by rfl, rfl⟩) (by assumption) ?_
      try simp only [Act.put, List.setIfInBounds_toArray, List.set_cons_zero, List.set_cons_succ]
      refine wpAnyH_take (i := 19) (oi := { dst := some 26, op := Op.pick (Operand.tmp 20) (Operand.tmp 25) (Operand.const (Value.bool false)), type := 4, pos := "state.go:40", after := #[{ on := 13, ground := Ground.data }, { on := 18, ground := Ground.data }, { on := 3, ground := Ground.guard }], guard := some (3, false) }) (v := .bool false) rfl (by kernel_rfl) (by kernel_rfl) (by kernel_rfl) (fun _ _ _ h => h) (Or.inl ⟨by rfl, by intro w hSw; (try dsimp only at hSw); (try have hSt := hSw.s.turns); go_simp⟩) (by assumption) ?_
      try simp only [Act.put, List.setIfInBounds_toArray, List.set_cons_zero, List.set_cons_succ]
      refine wpAnyH_take (i := 20) (oi := { dst := some 27, op := Op.pick (Operand.tmp 10) (Operand.const (Value.bool true)) (Operand.tmp 26), type := 4, pos := "state.go:40", after := #[{ on := 3, ground := Ground.data }, { on := 19, ground := Ground.data }], guard := none }) (v := .bool false) rfl (by kernel_rfl) (by kernel_rfl) (by kernel_rfl) (fun _ _ _ h => h) (Or.inl ⟨by rfl, by intro w hSw; (try dsimp only at hSw); (try have hSt := hSw.s.turns); go_simp⟩) (by assumption) ?_
      try simp only [Act.put, List.setIfInBounds_toArray, List.set_cons_zero, List.set_cons_succ]
      refine wpAnyH_take (i := 21) (oi := { dst := some 4, op := Op.assign (Operand.tmp 27), type := 4, pos := "state.go:40", after := #[{ on := 20, ground := Ground.data }, { on := 17, ground := Ground.chain }, { on := 0, ground := Ground.phase }, { on := 1, ground := Ground.phase }, { on := 2, ground := Ground.phase }, { on := 3, ground := Ground.phase }, { on := 4, ground := Ground.phase }, { on := 5, ground := Ground.phase }, { on := 6, ground := Ground.phase }, { on := 7, ground := Ground.phase }, { on := 8, ground := Ground.phase }, { on := 9, ground := Ground.phase }, { on := 10, ground := Ground.phase }, { on := 11, ground := Ground.phase }, { on := 12, ground := Ground.phase }, { on := 13, ground := Ground.phase }, { on := 14, ground := Ground.phase }, { on := 15, ground := Ground.phase }, { on := 16, ground := Ground.phase }, { on := 17, ground := Ground.phase }, { on := 18, ground := Ground.phase }, { on := 19, ground := Ground.phase }, { on := 20, ground := Ground.phase }], guard := none }) (v := .bool false) rfl (by kernel_rfl) (by kernel_rfl) (by kernel_rfl) (fun _ _ _ h => h) (Or.inl ⟨by rfl, by intro w hSw; (try dsimp only at hSw); (try have hSt := hSw.s.turns); go_simp⟩) (by assumption) ?_
      try simp only [Act.put, List.setIfInBounds_toArray, List.set_cons_zero, List.set_cons_succ]
      refine wpAnyH_done (by kernel_rfl) ?_ _
      refine NoPanic.normal ?_
      have HM2 := Lib.hid hHeld
      clear hHeld
      cases v with
      | true =>
        go_wp2_with (first
          | (refine wpList_load_row (by rfl) 45 (.tmp 1) (by rfl) K (by rfl) 45 S.cl.toArray (0, 0) _ HM2.out.s.hp Try.underlying45 rfl (by rw [HZS.out]; kernel_rfl) ?_)
          | (go_at_call 50; go_must (refine (HCN.out _).mono ?_; rintro e w5 ⟨rfl, hk5⟩; have HK5 := Lib.hid (HM2.out.k.trans0 hk5); clear hk5)))
        go_ret
        exact ⟨by rw [HE.out]; rfl, HK5.out⟩
      | false =>
        go_wp2_with (first
          | (refine wpList_load_row (by rfl) 45 (.tmp 1) (by rfl) K (by rfl) 45 S.cl.toArray (0, 0) _ HM2.out.s.hp Try.underlying45 rfl (by rw [HZS.out]; kernel_rfl) ?_)
          | (go_at_call 50; go_must (refine (HCN.out _).mono ?_; rintro e w5 ⟨rfl, hk5⟩; have HK5 := Lib.hid (HM2.out.k.trans0 hk5); clear hk5)))
        go_ret
        exact ⟨by rw [HE.out]; rfl, HK5.out⟩
    · have q1 : decide (S.hid = z32) = false := by simpa using hi
      by_cases ht : S.turns = 0
      · have q2 : (S.turns == 0) = true := by simpa using ht
        by_cases hf : S.hid = S.bind.take 32
        · have q3 : decide (S.hid = S.bind.take 32) = true := by simpa using hf
          have HE : Hid (S.err v = if v = true then 0 else 180) := Lib.hid (by
            have e : S.grt = true := by unfold St.grt; rw [q3, decide_eq_true ht, decide_eq_true hi]; simp
            unfold St.err; rw [e]; simp)
          clear hh hi ht hf
          refine wp_region_noPanic ?_
          refine wp_region_held_drew (S := fun w' => CM w w' K S) (by kernel_rfl) HM.out.drew (fun hHeld => ?_)
          refine wpAnyH_take (i := 0) (oi := { dst := some 7, op := Op.load 42 (Operand.tmp 3), type := 42, pos := "state.go:40", after := #[], guard := none }) (v := .agg (hel S.hid S.ho S.hp).toArray) rfl (by kernel_rfl) (by kernel_rfl) (by kernel_rfl) (fun _ _ _ h => h) (yieldsIf_load_mid (by rfl) 42 (.tmp 3) (by rfl) (K + 1) 0 (by rfl) (hel S.hid S.ho S.hp) _ (fun w h => h.all) hu2 rfl hi2) (by assumption) ?_
          try simp only [Act.put, List.setIfInBounds_toArray, List.set_cons_zero, List.set_cons_succ]
          refine wpAnyH_take (i := 1) (oi := { dst := some 8, op := Op.build 42 #[], type := 42, pos := "state.go:40", after := #[], guard := none }) (v := .agg Try.zeroCells42) rfl (by kernel_rfl) (by kernel_rfl) (by kernel_rfl) (fun _ _ _ h => h) (Or.inl ⟨by rfl, by intro w hSw; (try dsimp only at hSw); (try have hSt := hSw.s.turns); go_simp⟩) (by assumption) ?_
          try simp only [Act.put, List.setIfInBounds_toArray, List.set_cons_zero, List.set_cons_succ]
          refine wpAnyH_take (i := 2) (oi := { dst := some 9, op := Op.binOp BinOp.eql 42 (Operand.tmp 7) (Operand.tmp 8) 42, type := 4, pos := "state.go:40", after := #[{ on := 0, ground := Ground.data }, { on := 1, ground := Ground.data }], guard := none }) (v := .bool false) rfl (by kernel_rfl) (by kernel_rfl) (by kernel_rfl) (fun _ _ _ h => h) (Or.inl ⟨by rfl, by intro w hSw; (try dsimp only at hSw); (try have hSt := hSw.s.turns); go_simp⟩) (by assumption) ?_
          try simp only [Act.put, List.setIfInBounds_toArray, List.set_cons_zero, List.set_cons_succ]
          refine wpAnyH_take (i := 3) (oi := { dst := some 10, op := Op.move (Operand.tmp 9), type := 4, pos := "state.go:40", after := #[{ on := 2, ground := Ground.data }], guard := none }) (v := .bool false) rfl (by kernel_rfl) (by kernel_rfl) (by kernel_rfl) (fun _ _ _ h => h) (Or.inl ⟨by rfl, by intro w hSw; (try dsimp only at hSw); (try have hSt := hSw.s.turns); go_simp⟩) (by assumption) ?_
          try simp only [Act.put, List.setIfInBounds_toArray, List.set_cons_zero, List.set_cons_succ]
          refine wpAnyH_take (i := 4) (oi := { dst := some 11, op := Op.fieldAddr 42 (Operand.tmp 3) 0, type := 0, pos := "state.go:40", after := #[{ on := 3, ground := Ground.guard }], guard := some (3, false) }) (v := .pointer (some ⟨K + 1, 0, none⟩)) rfl (by kernel_rfl) (by kernel_rfl) (by kernel_rfl) (fun _ _ _ h => h) (Or.inl ⟨by rfl, by intro w hSw; (try dsimp only at hSw); (try have hSt := hSw.s.turns); go_simp⟩) (by assumption) ?_
          try simp only [Act.put, List.setIfInBounds_toArray, List.set_cons_zero, List.set_cons_succ]
          refine wpAnyH_take (i := 5) (oi := { dst := some 12, op := Op.load 37 (Operand.tmp 11), type := 37, pos := "state.go:40", after := #[{ on := 4, ground := Ground.data }, { on := 3, ground := Ground.guard }], guard := some (3, false) }) (v := .agg (iv S.hid).toArray) rfl (by kernel_rfl) (by kernel_rfl) (by kernel_rfl) (fun _ _ _ h => h) (yieldsIf_load_mid (by rfl) 37 (.tmp 11) (by rfl) (K + 1) 0 (by rfl) (iv S.hid) _ (fun w h => h.hid) hu1 rfl hi1) (by assumption) ?_
          try simp only [Act.put, List.setIfInBounds_toArray, List.set_cons_zero, List.set_cons_succ]
          refine wpAnyH_take (i := 6) (oi := { dst := some 13, op := Op.build 37 #[], type := 37, pos := "state.go:40", after := #[{ on := 3, ground := Ground.guard }], guard := some (3, false) }) (v := .agg #[.int .u8 0, .int .u8 0, .int .u8 0, .int .u8 0, .int .u8 0, .int .u8 0, .int .u8 0, .int .u8 0, .int .u8 0, .int .u8 0, .int .u8 0, .int .u8 0, .int .u8 0, .int .u8 0, .int .u8 0, .int .u8 0, .int .u8 0, .int .u8 0, .int .u8 0, .int .u8 0, .int .u8 0, .int .u8 0, .int .u8 0, .int .u8 0, .int .u8 0, .int .u8 0, .int .u8 0, .int .u8 0, .int .u8 0, .int .u8 0, .int .u8 0, .int .u8 0]) rfl (by kernel_rfl) (by kernel_rfl) (by kernel_rfl) (fun _ _ _ h => h) (Or.inl ⟨by rfl, by intro w hSw; (try dsimp only at hSw); (try have hSt := hSw.s.turns); go_simp⟩) (by assumption) ?_
          try simp only [Act.put, List.setIfInBounds_toArray, List.set_cons_zero, List.set_cons_succ]
          refine wpAnyH_take (i := 7) (oi := { dst := some 14, op := Op.binOp BinOp.neq 37 (Operand.tmp 12) (Operand.tmp 13) 37, type := 4, pos := "state.go:40", after := #[{ on := 5, ground := Ground.data }, { on := 6, ground := Ground.data }, { on := 3, ground := Ground.guard }], guard := some (3, false) }) (v := .bool true) rfl (by kernel_rfl) (by kernel_rfl) (by kernel_rfl) (fun _ _ _ h => h) (Or.inl ⟨by rfl, by intro w hSw; (try dsimp only at hSw); (try have hSt := hSw.s.turns); go_simp⟩) (by assumption) ?_
          try simp only [Act.put, List.setIfInBounds_toArray, List.set_cons_zero, List.set_cons_succ]
          refine wpAnyH_take (i := 8) (oi := { dst := some 15, op := Op.move (Operand.tmp 14), type := 4, pos := "state.go:40", after := #[{ on := 7, ground := Ground.data }, { on := 3, ground := Ground.chain }, { on := 3, ground := Ground.guard }], guard := some (3, false) }) (v := .bool true) rfl (by kernel_rfl) (by kernel_rfl) (by kernel_rfl) (fun _ _ _ h => h) (Or.inl ⟨by rfl, by intro w hSw; (try dsimp only at hSw); (try have hSt := hSw.s.turns); go_simp⟩) (by assumption) ?_
          try simp only [Act.put, List.setIfInBounds_toArray, List.set_cons_zero, List.set_cons_succ]
          refine wpAnyH_take (i := 9) (oi := { dst := some 16, op := Op.fieldAddr 45 (Operand.tmp 1) 7, type := 0, pos := "state.go:40", after := #[{ on := 8, ground := Ground.guard }], guard := some (8, true) }) (v := .pointer (some ⟨K, 209, none⟩)) rfl (by kernel_rfl) (by kernel_rfl) (by kernel_rfl) (fun _ _ _ h => h) (Or.inl ⟨by rfl, by intro w hSw; (try dsimp only at hSw); (try have hSt := hSw.s.turns); go_simp⟩) (by assumption) ?_
          try simp only [Act.put, List.setIfInBounds_toArray, List.set_cons_zero, List.set_cons_succ]
          refine wpAnyH_take (i := 10) (oi := { dst := some 17, op := Op.load 40 (Operand.tmp 16), type := 40, pos := "state.go:40", after := #[{ on := 9, ground := Ground.data }, { on := 8, ground := Ground.guard }], guard := some (8, true) }) (v := .int .u32 S.turns) rfl (by kernel_rfl) (by kernel_rfl) (by kernel_rfl) (fun _ _ _ h => h) (Or.inl ⟨by rfl, by intro w hSw; (try dsimp only at hSw); (try have hSt := hSw.s.turns); go_simp⟩) (by assumption) ?_
          try simp only [Act.put, List.setIfInBounds_toArray, List.set_cons_zero, List.set_cons_succ]
          refine wpAnyH_take (i := 11) (oi := { dst := some 18, op := Op.binOp BinOp.eql 40 (Operand.tmp 17) (Operand.const (Value.int IntKind.u32 0)) 40, type := 4, pos := "state.go:40", after := #[{ on := 10, ground := Ground.data }, { on := 8, ground := Ground.guard }], guard := some (8, true) }) (v := .bool true) rfl (by kernel_rfl) (by kernel_rfl) (by kernel_rfl) (fun _ _ _ h => h) (Or.inl ⟨by rfl, by intro w hSw; (try dsimp only at hSw); (try have hSt := hSw.s.turns); go_simp⟩) (by assumption) ?_
          try simp only [Act.put, List.setIfInBounds_toArray, List.set_cons_zero, List.set_cons_succ]
          refine wpAnyH_take (i := 12) (oi := { dst := some 19, op := Op.pick (Operand.tmp 15) (Operand.tmp 18) (Operand.const (Value.bool false)), type := 4, pos := "state.go:40", after := #[{ on := 8, ground := Ground.data }, { on := 11, ground := Ground.data }, { on := 3, ground := Ground.guard }], guard := some (3, false) }) (v := .bool true) rfl (by kernel_rfl) (by kernel_rfl) (by kernel_rfl) (fun _ _ _ h => h) (Or.inl ⟨by rfl, by intro w hSw; (try dsimp only at hSw); (try have hSt := hSw.s.turns); go_simp⟩) (by assumption) ?_
          try simp only [Act.put, List.setIfInBounds_toArray, List.set_cons_zero, List.set_cons_succ]
          refine wpAnyH_take (i := 13) (oi := { dst := some 20, op := Op.move (Operand.tmp 19), type := 4, pos := "state.go:40", after := #[{ on := 12, ground := Ground.data }, { on := 8, ground := Ground.chain }, { on := 3, ground := Ground.guard }], guard := some (3, false) }) (v := .bool true) rfl (by kernel_rfl) (by kernel_rfl) (by kernel_rfl) (fun _ _ _ h => h) (Or.inl ⟨by rfl, by intro w hSw; (try dsimp only at hSw); (try have hSt := hSw.s.turns); go_simp⟩) (by assumption) ?_
          try simp only [Act.put, List.setIfInBounds_toArray, List.set_cons_zero, List.set_cons_succ]
          refine wpAnyH_take (i := 14) (oi := { dst := some 21, op := Op.fieldAddr 42 (Operand.tmp 3) 0, type := 0, pos := "state.go:40", after := #[{ on := 13, ground := Ground.guard }], guard := some (13, true) }) (v := .pointer (some ⟨K + 1, 0, none⟩)) rfl (by kernel_rfl) (by kernel_rfl) (by kernel_rfl) (fun _ _ _ h => h) (Or.inl ⟨by rfl, by intro w hSw; (try dsimp only at hSw); (try have hSt := hSw.s.turns); go_simp⟩) (by assumption) ?_
          try simp only [Act.put, List.setIfInBounds_toArray, List.set_cons_zero, List.set_cons_succ]
          refine wpAnyH_take (i := 15) (oi := { dst := some 22, op := Op.load 37 (Operand.tmp 21), type := 37, pos := "state.go:40", after := #[{ on := 14, ground := Ground.data }, { on := 13, ground := Ground.guard }], guard := some (13, true) }) (v := .agg (iv S.hid).toArray) rfl (by kernel_rfl) (by kernel_rfl) (by kernel_rfl) (fun _ _ _ h => h) (yieldsIf_load_mid (by rfl) 37 (.tmp 21) (by rfl) (K + 1) 0 (by rfl) (iv S.hid) _ (fun w h => h.hid) hu1 rfl hi1) (by assumption) ?_
          try simp only [Act.put, List.setIfInBounds_toArray, List.set_cons_zero, List.set_cons_succ]
          refine wpAnyH_take (i := 16) (oi := { dst := some 23, op := Op.load 45 (Operand.tmp 1), type := 45, pos := "state.go:40", after := #[{ on := 13, ground := Ground.guard }], guard := some (13, true) }) (v := .agg (S.cl).toArray) rfl (by kernel_rfl) (by kernel_rfl) (by kernel_rfl) (fun _ _ _ h => h) (yieldsIf_load_mid (by rfl) 45 (.tmp 1) (by rfl) K 0 (by rfl) (S.cl) _ (fun w h => h.s.all) hu3 rfl hi3) (by assumption) ?_
          try simp only [Act.put, List.setIfInBounds_toArray, List.set_cons_zero, List.set_cons_succ]
          refine wpAnyH_ready (rs := [17]) (by kernel_rfl) (by simp) ?_
          refine AllReadyH.cons (o := { dst := some 24, op := Op.call { callee := Callee.value (Operand.func 49), args := #[Operand.tmp 23], argTypes := #[45] }, type := 37, pos := "state.go:40", after := #[{ on := 16, ground := Ground.data }, { on := 13, ground := Ground.chain }, { on := 13, ground := Ground.guard }], guard := some (13, true) }) rfl (fun K' hK => ?_) AllReadyH.nil
          go_simp
          refine (HFI.out _).mono ?_
          rintro e w4 ⟨rfl, hk4⟩
          have hm4 : CM w w4 K S := hHeld.kp hk4
          clear hk4 hHeld
          (try go_simp)
          refine hK.out _ _ hm4 (fun hHeld => ?_)
          clear hK K' hm4
          try simp only [Act.put, List.setIfInBounds_toArray, List.set_cons_zero, List.set_cons_succ]
          refine wpAnyH_take (i := 18) (oi := { dst := some 25, op := Op.binOp BinOp.eql 37 (Operand.tmp 22) (Operand.tmp 24) 37, type := 4, pos := "state.go:40", after := #[{ on := 15, ground := Ground.data }, { on := 17, ground := Ground.data }, { on := 13, ground := Ground.guard }], guard := some (13, true) }) (v := .bool true) rfl (by kernel_rfl) (by kernel_rfl) (by kernel_rfl) (fun _ _ _ h => h) (Or.inl ⟨by rfl, by intro w hSw; (try dsimp only at hSw); (try have hSt := hSw.s.turns); go_simp⟩) (by assumption) ?_
          try simp only [Act.put, List.setIfInBounds_toArray, List.set_cons_zero, List.set_cons_succ]
          refine wpAnyH_take (i := 19) (oi := { dst := some 26, op := Op.pick (Operand.tmp 20) (Operand.tmp 25) (Operand.const (Value.bool false)), type := 4, pos := "state.go:40", after := #[{ on := 13, ground := Ground.data }, { on := 18, ground := Ground.data }, { on := 3, ground := Ground.guard }], guard := some (3, false) }) (v := .bool true) rfl (by kernel_rfl) (by kernel_rfl) (by kernel_rfl) (fun _ _ _ h => h) (Or.inl ⟨by rfl, by intro w hSw; (try dsimp only at hSw); (try have hSt := hSw.s.turns); go_simp⟩) (by assumption) ?_
          try simp only [Act.put, List.setIfInBounds_toArray, List.set_cons_zero, List.set_cons_succ]
          refine wpAnyH_take (i := 20) (oi := { dst := some 27, op := Op.pick (Operand.tmp 10) (Operand.const (Value.bool true)) (Operand.tmp 26), type := 4, pos := "state.go:40", after := #[{ on := 3, ground := Ground.data }, { on := 19, ground := Ground.data }], guard := none }) (v := .bool true) rfl (by kernel_rfl) (by kernel_rfl) (by kernel_rfl) (fun _ _ _ h => h) (Or.inl ⟨by rfl, by intro w hSw; (try dsimp only at hSw); (try have hSt := hSw.s.turns); go_simp⟩) (by assumption) ?_
          try simp only [Act.put, List.setIfInBounds_toArray, List.set_cons_zero, List.set_cons_succ]
          refine wpAnyH_take (i := 21) (oi := { dst := some 4, op := Op.assign (Operand.tmp 27), type := 4, pos := "state.go:40", after := #[{ on := 20, ground := Ground.data }, { on := 17, ground := Ground.chain }, { on := 0, ground := Ground.phase }, { on := 1, ground := Ground.phase }, { on := 2, ground := Ground.phase }, { on := 3, ground := Ground.phase }, { on := 4, ground := Ground.phase }, { on := 5, ground := Ground.phase }, { on := 6, ground := Ground.phase }, { on := 7, ground := Ground.phase }, { on := 8, ground := Ground.phase }, { on := 9, ground := Ground.phase }, { on := 10, ground := Ground.phase }, { on := 11, ground := Ground.phase }, { on := 12, ground := Ground.phase }, { on := 13, ground := Ground.phase }, { on := 14, ground := Ground.phase }, { on := 15, ground := Ground.phase }, { on := 16, ground := Ground.phase }, { on := 17, ground := Ground.phase }, { on := 18, ground := Ground.phase }, { on := 19, ground := Ground.phase }, { on := 20, ground := Ground.phase }], guard := none }) (v := .bool true) rfl (by kernel_rfl) (by kernel_rfl) (by kernel_rfl) (fun _ _ _ h => h) (Or.inl ⟨by rfl, by intro w hSw; (try dsimp only at hSw); (try have hSt := hSw.s.turns); go_simp⟩) (by assumption) ?_
          try simp only [Act.put, List.setIfInBounds_toArray, List.set_cons_zero, List.set_cons_succ]
          refine wpAnyH_done (by kernel_rfl) ?_ _
          refine NoPanic.normal ?_
          have HM2 := Lib.hid hHeld
          clear hHeld
          cases v with
          | true =>
            go_wp2_with (first
              | (refine wpList_load_row (by rfl) 45 (.tmp 1) (by rfl) K (by rfl) 45 S.cl.toArray (0, 0) _ HM2.out.s.hp Try.underlying45 rfl (by rw [HZS.out]; kernel_rfl) ?_)
              | (go_at_call 50; go_must (refine (HCN.out _).mono ?_; rintro e w5 ⟨rfl, hk5⟩; have HK5 := Lib.hid (HM2.out.k.trans0 hk5); clear hk5)))
            go_ret
            exact ⟨by rw [HE.out]; rfl, HK5.out⟩
          | false =>
            go_wp2_with (first
              | (refine wpList_load_row (by rfl) 45 (.tmp 1) (by rfl) K (by rfl) 45 S.cl.toArray (0, 0) _ HM2.out.s.hp Try.underlying45 rfl (by rw [HZS.out]; kernel_rfl) ?_)
              | (go_at_call 50; go_must (refine (HCN.out _).mono ?_; rintro e w5 ⟨rfl, hk5⟩; have HK5 := Lib.hid (HM2.out.k.trans0 hk5); clear hk5)))
            go_ret
            exact ⟨by rw [HE.out]; rfl, HK5.out⟩
        · have q3 : decide (S.hid = S.bind.take 32) = false := by simpa using hf
          have HE : Hid (S.err v = 180) := Lib.hid (by
            have e : S.grt = false := by unfold St.grt; rw [q3, decide_eq_false hh]; simp
            unfold St.err; rw [e]; simp)
          clear hh hi ht hf
          refine wp_region_noPanic ?_
          refine wp_region_held_drew (S := fun w' => CM w w' K S) (by kernel_rfl) HM.out.drew (fun hHeld => ?_)
          refine wpAnyH_take (i := 0) (oi := { dst := some 7, op := Op.load 42 (Operand.tmp 3), type := 42, pos := "state.go:40", after := #[], guard := none }) (v := .agg (hel S.hid S.ho S.hp).toArray) rfl (by kernel_rfl) (by kernel_rfl) (by kernel_rfl) (fun _ _ _ h => h) (yieldsIf_load_mid (by rfl) 42 (.tmp 3) (by rfl) (K + 1) 0 (by rfl) (hel S.hid S.ho S.hp) _ (fun w h => h.all) hu2 rfl hi2) (by assumption) ?_
          try simp only [Act.put, List.setIfInBounds_toArray, List.set_cons_zero, List.set_cons_succ]
          refine wpAnyH_take (i := 1) (oi := { dst := some 8, op := Op.build 42 #[], type := 42, pos := "state.go:40", after := #[], guard := none }) (v := .agg Try.zeroCells42) rfl (by kernel_rfl) (by kernel_rfl) (by kernel_rfl) (fun _ _ _ h => h) (Or.inl ⟨by rfl, by intro w hSw; (try dsimp only at hSw); (try have hSt := hSw.s.turns); go_simp⟩) (by assumption) ?_
          try simp only [Act.put, List.setIfInBounds_toArray, List.set_cons_zero, List.set_cons_succ]
          refine wpAnyH_take (i := 2) (oi := { dst := some 9, op := Op.binOp BinOp.eql 42 (Operand.tmp 7) (Operand.tmp 8) 42, type := 4, pos := "state.go:40", after := #[{ on := 0, ground := Ground.data }, { on := 1, ground := Ground.data }], guard := none }) (v := .bool false) rfl (by kernel_rfl) (by kernel_rfl) (by kernel_rfl) (fun _ _ _ h => h) (Or.inl ⟨by rfl, by intro w hSw; (try dsimp only at hSw); (try have hSt := hSw.s.turns); go_simp⟩) (by assumption) ?_
          try simp only [Act.put, List.setIfInBounds_toArray, List.set_cons_zero, List.set_cons_succ]
          refine wpAnyH_take (i := 3) (oi := { dst := some 10, op := Op.move (Operand.tmp 9), type := 4, pos := "state.go:40", after := #[{ on := 2, ground := Ground.data }], guard := none }) (v := .bool false) rfl (by kernel_rfl) (by kernel_rfl) (by kernel_rfl) (fun _ _ _ h => h) (Or.inl ⟨by rfl, by intro w hSw; (try dsimp only at hSw); (try have hSt := hSw.s.turns); go_simp⟩) (by assumption) ?_
          try simp only [Act.put, List.setIfInBounds_toArray, List.set_cons_zero, List.set_cons_succ]
          refine wpAnyH_take (i := 4) (oi := { dst := some 11, op := Op.fieldAddr 42 (Operand.tmp 3) 0, type := 0, pos := "state.go:40", after := #[{ on := 3, ground := Ground.guard }], guard := some (3, false) }) (v := .pointer (some ⟨K + 1, 0, none⟩)) rfl (by kernel_rfl) (by kernel_rfl) (by kernel_rfl) (fun _ _ _ h => h) (Or.inl ⟨by rfl, by intro w hSw; (try dsimp only at hSw); (try have hSt := hSw.s.turns); go_simp⟩) (by assumption) ?_
          try simp only [Act.put, List.setIfInBounds_toArray, List.set_cons_zero, List.set_cons_succ]
          refine wpAnyH_take (i := 5) (oi := { dst := some 12, op := Op.load 37 (Operand.tmp 11), type := 37, pos := "state.go:40", after := #[{ on := 4, ground := Ground.data }, { on := 3, ground := Ground.guard }], guard := some (3, false) }) (v := .agg (iv S.hid).toArray) rfl (by kernel_rfl) (by kernel_rfl) (by kernel_rfl) (fun _ _ _ h => h) (yieldsIf_load_mid (by rfl) 37 (.tmp 11) (by rfl) (K + 1) 0 (by rfl) (iv S.hid) _ (fun w h => h.hid) hu1 rfl hi1) (by assumption) ?_
          try simp only [Act.put, List.setIfInBounds_toArray, List.set_cons_zero, List.set_cons_succ]
          refine wpAnyH_take (i := 6) (oi := { dst := some 13, op := Op.build 37 #[], type := 37, pos := "state.go:40", after := #[{ on := 3, ground := Ground.guard }], guard := some (3, false) }) (v := .agg #[.int .u8 0, .int .u8 0, .int .u8 0, .int .u8 0, .int .u8 0, .int .u8 0, .int .u8 0, .int .u8 0, .int .u8 0, .int .u8 0, .int .u8 0, .int .u8 0, .int .u8 0, .int .u8 0, .int .u8 0, .int .u8 0, .int .u8 0, .int .u8 0, .int .u8 0, .int .u8 0, .int .u8 0, .int .u8 0, .int .u8 0, .int .u8 0, .int .u8 0, .int .u8 0, .int .u8 0, .int .u8 0, .int .u8 0, .int .u8 0, .int .u8 0, .int .u8 0]) rfl (by kernel_rfl) (by kernel_rfl) (by kernel_rfl) (fun _ _ _ h => h) (Or.inl ⟨by rfl, by intro w hSw; (try dsimp only at hSw); (try have hSt := hSw.s.turns); go_simp⟩) (by assumption) ?_
          try simp only [Act.put, List.setIfInBounds_toArray, List.set_cons_zero, List.set_cons_succ]
          refine wpAnyH_take (i := 7) (oi := { dst := some 14, op := Op.binOp BinOp.neq 37 (Operand.tmp 12) (Operand.tmp 13) 37, type := 4, pos := "state.go:40", after := #[{ on := 5, ground := Ground.data }, { on := 6, ground := Ground.data }, { on := 3, ground := Ground.guard }], guard := some (3, false) }) (v := .bool true) rfl (by kernel_rfl) (by kernel_rfl) (by kernel_rfl) (fun _ _ _ h => h) (Or.inl ⟨by rfl, by intro w hSw; (try dsimp only at hSw); (try have hSt := hSw.s.turns); go_simp⟩) (by assumption) ?_
          try simp only [Act.put, List.setIfInBounds_toArray, List.set_cons_zero, List.set_cons_succ]
          refine wpAnyH_take (i := 8) (oi := { dst := some 15, op := Op.move (Operand.tmp 14), type := 4, pos := "state.go:40", after := #[{ on := 7, ground := Ground.data }, { on := 3, ground := Ground.chain }, { on := 3, ground := Ground.guard }], guard := some (3, false) }) (v := .bool true) rfl (by kernel_rfl) (by kernel_rfl) (by kernel_rfl) (fun _ _ _ h => h) (Or.inl ⟨by rfl, by intro w hSw; (try dsimp only at hSw); (try have hSt := hSw.s.turns); go_simp⟩) (by assumption) ?_
          try simp only [Act.put, List.setIfInBounds_toArray, List.set_cons_zero, List.set_cons_succ]
          refine wpAnyH_take (i := 9) (oi := { dst := some 16, op := Op.fieldAddr 45 (Operand.tmp 1) 7, type := 0, pos := "state.go:40", after := #[{ on := 8, ground := Ground.guard }], guard := some (8, true) }) (v := .pointer (some ⟨K, 209, none⟩)) rfl (by kernel_rfl) (by kernel_rfl) (by kernel_rfl) (fun _ _ _ h => h) (Or.inl ⟨by rfl, by intro w hSw; (try dsimp only at hSw); (try have hSt := hSw.s.turns); go_simp⟩) (by assumption) ?_
          try simp only [Act.put, List.setIfInBounds_toArray, List.set_cons_zero, List.set_cons_succ]
          refine wpAnyH_take (i := 10) (oi := { dst := some 17, op := Op.load 40 (Operand.tmp 16), type := 40, pos := "state.go:40", after := #[{ on := 9, ground := Ground.data }, { on := 8, ground := Ground.guard }], guard := some (8, true) }) (v := .int .u32 S.turns) rfl (by kernel_rfl) (by kernel_rfl) (by kernel_rfl) (fun _ _ _ h => h) (Or.inl ⟨by rfl, by intro w hSw; (try dsimp only at hSw); (try have hSt := hSw.s.turns); go_simp⟩) (by assumption) ?_
          try simp only [Act.put, List.setIfInBounds_toArray, List.set_cons_zero, List.set_cons_succ]
          refine wpAnyH_take (i := 11) (oi := { dst := some 18, op := Op.binOp BinOp.eql 40 (Operand.tmp 17) (Operand.const (Value.int IntKind.u32 0)) 40, type := 4, pos := "state.go:40", after := #[{ on := 10, ground := Ground.data }, { on := 8, ground := Ground.guard }], guard := some (8, true) }) (v := .bool true) rfl (by kernel_rfl) (by kernel_rfl) (by kernel_rfl) (fun _ _ _ h => h) (Or.inl ⟨by rfl, by intro w hSw; (try dsimp only at hSw); (try have hSt := hSw.s.turns); go_simp⟩) (by assumption) ?_
          try simp only [Act.put, List.setIfInBounds_toArray, List.set_cons_zero, List.set_cons_succ]
          refine wpAnyH_take (i := 12) (oi := { dst := some 19, op := Op.pick (Operand.tmp 15) (Operand.tmp 18) (Operand.const (Value.bool false)), type := 4, pos := "state.go:40", after := #[{ on := 8, ground := Ground.data }, { on := 11, ground := Ground.data }, { on := 3, ground := Ground.guard }], guard := some (3, false) }) (v := .bool true) rfl (by kernel_rfl) (by kernel_rfl) (by kernel_rfl) (fun _ _ _ h => h) (Or.inl ⟨by rfl, by intro w hSw; (try dsimp only at hSw); (try have hSt := hSw.s.turns); go_simp⟩) (by assumption) ?_
          try simp only [Act.put, List.setIfInBounds_toArray, List.set_cons_zero, List.set_cons_succ]
          refine wpAnyH_take (i := 13) (oi := { dst := some 20, op := Op.move (Operand.tmp 19), type := 4, pos := "state.go:40", after := #[{ on := 12, ground := Ground.data }, { on := 8, ground := Ground.chain }, { on := 3, ground := Ground.guard }], guard := some (3, false) }) (v := .bool true) rfl (by kernel_rfl) (by kernel_rfl) (by kernel_rfl) (fun _ _ _ h => h) (Or.inl ⟨by rfl, by intro w hSw; (try dsimp only at hSw); (try have hSt := hSw.s.turns); go_simp⟩) (by assumption) ?_
          try simp only [Act.put, List.setIfInBounds_toArray, List.set_cons_zero, List.set_cons_succ]
          refine wpAnyH_take (i := 14) (oi := { dst := some 21, op := Op.fieldAddr 42 (Operand.tmp 3) 0, type := 0, pos := "state.go:40", after := #[{ on := 13, ground := Ground.guard }], guard := some (13, true) }) (v := .pointer (some ⟨K + 1, 0, none⟩)) rfl (by kernel_rfl) (by kernel_rfl) (by kernel_rfl) (fun _ _ _ h => h) (Or.inl ⟨by rfl, by intro w hSw; (try dsimp only at hSw); (try have hSt := hSw.s.turns); go_simp⟩) (by assumption) ?_
          try simp only [Act.put, List.setIfInBounds_toArray, List.set_cons_zero, List.set_cons_succ]
          refine wpAnyH_take (i := 15) (oi := { dst := some 22, op := Op.load 37 (Operand.tmp 21), type := 37, pos := "state.go:40", after := #[{ on := 14, ground := Ground.data }, { on := 13, ground := Ground.guard }], guard := some (13, true) }) (v := .agg (iv S.hid).toArray) rfl (by kernel_rfl) (by kernel_rfl) (by kernel_rfl) (fun _ _ _ h => h) (yieldsIf_load_mid (by rfl) 37 (.tmp 21) (by rfl) (K + 1) 0 (by rfl) (iv S.hid) _ (fun w h => h.hid) hu1 rfl hi1) (by assumption) ?_
          try simp only [Act.put, List.setIfInBounds_toArray, List.set_cons_zero, List.set_cons_succ]
          refine wpAnyH_take (i := 16) (oi := { dst := some 23, op := Op.load 45 (Operand.tmp 1), type := 45, pos := "state.go:40", after := #[{ on := 13, ground := Ground.guard }], guard := some (13, true) }) (v := .agg (S.cl).toArray) rfl (by kernel_rfl) (by kernel_rfl) (by kernel_rfl) (fun _ _ _ h => h) (yieldsIf_load_mid (by rfl) 45 (.tmp 1) (by rfl) K 0 (by rfl) (S.cl) _ (fun w h => h.s.all) hu3 rfl hi3) (by assumption) ?_
          try simp only [Act.put, List.setIfInBounds_toArray, List.set_cons_zero, List.set_cons_succ]
          refine wpAnyH_ready (rs := [17]) (by kernel_rfl) (by simp) ?_
          refine AllReadyH.cons (o := { dst := some 24, op := Op.call { callee := Callee.value (Operand.func 49), args := #[Operand.tmp 23], argTypes := #[45] }, type := 37, pos := "state.go:40", after := #[{ on := 16, ground := Ground.data }, { on := 13, ground := Ground.chain }, { on := 13, ground := Ground.guard }], guard := some (13, true) }) rfl (fun K' hK => ?_) AllReadyH.nil
          go_simp
          refine (HFI.out _).mono ?_
          rintro e w4 ⟨rfl, hk4⟩
          have hm4 : CM w w4 K S := hHeld.kp hk4
          clear hk4 hHeld
          (try go_simp)
          refine hK.out _ _ hm4 (fun hHeld => ?_)
          clear hK K' hm4
          try simp only [Act.put, List.setIfInBounds_toArray, List.set_cons_zero, List.set_cons_succ]
          refine wpAnyH_take (i := 18) (oi := { dst := some 25, op := Op.binOp BinOp.eql 37 (Operand.tmp 22) (Operand.tmp 24) 37, type := 4, pos := "state.go:40", after := #[{ on := 15, ground := Ground.data }, { on := 17, ground := Ground.data }, { on := 13, ground := Ground.guard }], guard := some (13, true) }) (v := .bool false) rfl (by kernel_rfl) (by kernel_rfl) (by kernel_rfl) (fun _ _ _ h => h) (Or.inl ⟨by rfl, by intro w hSw; (try dsimp only at hSw); (try have hSt := hSw.s.turns); go_simp⟩) (by assumption) ?_
          try simp only [Act.put, List.setIfInBounds_toArray, List.set_cons_zero, List.set_cons_succ]
          refine wpAnyH_take (i := 19) (oi := { dst := some 26, op := Op.pick (Operand.tmp 20) (Operand.tmp 25) (Operand.const (Value.bool false)), type := 4, pos := "state.go:40", after := #[{ on := 13, ground := Ground.data }, { on := 18, ground := Ground.data }, { on := 3, ground := Ground.guard }], guard := some (3, false) }) (v := .bool false) rfl (by kernel_rfl) (by kernel_rfl) (by kernel_rfl) (fun _ _ _ h => h) (Or.inl ⟨by rfl, by intro w hSw; (try dsimp only at hSw); (try have hSt := hSw.s.turns); go_simp⟩) (by assumption) ?_
          try simp only [Act.put, List.setIfInBounds_toArray, List.set_cons_zero, List.set_cons_succ]
          refine wpAnyH_take (i := 20) (oi := { dst := some 27, op := Op.pick (Operand.tmp 10) (Operand.const (Value.bool true)) (Operand.tmp 26), type := 4, pos := "state.go:40", after := #[{ on := 3, ground := Ground.data }, { on := 19, ground := Ground.data }], guard := none }) (v := .bool false) rfl (by kernel_rfl) (by kernel_rfl) (by kernel_rfl) (fun _ _ _ h => h) (Or.inl ⟨by rfl, by intro w hSw; (try dsimp only at hSw); (try have hSt := hSw.s.turns); go_simp⟩) (by assumption) ?_
          try simp only [Act.put, List.setIfInBounds_toArray, List.set_cons_zero, List.set_cons_succ]
          refine wpAnyH_take (i := 21) (oi := { dst := some 4, op := Op.assign (Operand.tmp 27), type := 4, pos := "state.go:40", after := #[{ on := 20, ground := Ground.data }, { on := 17, ground := Ground.chain }, { on := 0, ground := Ground.phase }, { on := 1, ground := Ground.phase }, { on := 2, ground := Ground.phase }, { on := 3, ground := Ground.phase }, { on := 4, ground := Ground.phase }, { on := 5, ground := Ground.phase }, { on := 6, ground := Ground.phase }, { on := 7, ground := Ground.phase }, { on := 8, ground := Ground.phase }, { on := 9, ground := Ground.phase }, { on := 10, ground := Ground.phase }, { on := 11, ground := Ground.phase }, { on := 12, ground := Ground.phase }, { on := 13, ground := Ground.phase }, { on := 14, ground := Ground.phase }, { on := 15, ground := Ground.phase }, { on := 16, ground := Ground.phase }, { on := 17, ground := Ground.phase }, { on := 18, ground := Ground.phase }, { on := 19, ground := Ground.phase }, { on := 20, ground := Ground.phase }], guard := none }) (v := .bool false) rfl (by kernel_rfl) (by kernel_rfl) (by kernel_rfl) (fun _ _ _ h => h) (Or.inl ⟨by rfl, by intro w hSw; (try dsimp only at hSw); (try have hSt := hSw.s.turns); go_simp⟩) (by assumption) ?_
          try simp only [Act.put, List.setIfInBounds_toArray, List.set_cons_zero, List.set_cons_succ]
          refine wpAnyH_done (by kernel_rfl) ?_ _
          refine NoPanic.normal ?_
          have HM2 := Lib.hid hHeld
          clear hHeld
          cases v with
          | true =>
            go_wp2_with (first
              | (refine wpList_load_row (by rfl) 45 (.tmp 1) (by rfl) K (by rfl) 45 S.cl.toArray (0, 0) _ HM2.out.s.hp Try.underlying45 rfl (by rw [HZS.out]; kernel_rfl) ?_)
              | (go_at_call 50; go_must (refine (HCN.out _).mono ?_; rintro e w5 ⟨rfl, hk5⟩; have HK5 := Lib.hid (HM2.out.k.trans0 hk5); clear hk5)))
            go_ret
            exact ⟨by rw [HE.out]; rfl, HK5.out⟩
          | false =>
            go_wp2_with (first
              | (refine wpList_load_row (by rfl) 45 (.tmp 1) (by rfl) K (by rfl) 45 S.cl.toArray (0, 0) _ HM2.out.s.hp Try.underlying45 rfl (by rw [HZS.out]; kernel_rfl) ?_)
              | (go_at_call 50; go_must (refine (HCN.out _).mono ?_; rintro e w5 ⟨rfl, hk5⟩; have HK5 := Lib.hid (HM2.out.k.trans0 hk5); clear hk5)))
            go_ret
            exact ⟨by rw [HE.out]; rfl, HK5.out⟩
      · have q2 : (S.turns == 0) = false := by simpa using ht
        have HE : Hid (S.err v = 180) := Lib.hid (by
          have e : S.grt = false := by unfold St.grt; rw [decide_eq_false hh, decide_eq_false ht]; simp
          unfold St.err; rw [e]; simp)
        clear hh hi ht
        refine wp_region_noPanic ?_
        refine wp_region_held_drew (S := fun w' => CM w w' K S) (by kernel_rfl) HM.out.drew (fun hHeld => ?_)
        refine wpAnyH_take (i := 0) (oi := { dst := some 7, op := Op.load 42 (Operand.tmp 3), type := 42, pos := "state.go:40", after := #[], guard := none }) (v := .agg (hel S.hid S.ho S.hp).toArray) rfl (by kernel_rfl) (by kernel_rfl) (by kernel_rfl) (fun _ _ _ h => h) (yieldsIf_load_mid (by rfl) 42 (.tmp 3) (by rfl) (K + 1) 0 (by rfl) (hel S.hid S.ho S.hp) _ (fun w h => h.all) hu2 rfl hi2) (by assumption) ?_
        try simp only [Act.put, List.setIfInBounds_toArray, List.set_cons_zero, List.set_cons_succ]
        refine wpAnyH_take (i := 1) (oi := { dst := some 8, op := Op.build 42 #[], type := 42, pos := "state.go:40", after := #[], guard := none }) (v := .agg Try.zeroCells42) rfl (by kernel_rfl) (by kernel_rfl) (by kernel_rfl) (fun _ _ _ h => h) (Or.inl ⟨by rfl, by intro w hSw; (try dsimp only at hSw); (try have hSt := hSw.s.turns); go_simp⟩) (by assumption) ?_
        try simp only [Act.put, List.setIfInBounds_toArray, List.set_cons_zero, List.set_cons_succ]
        refine wpAnyH_take (i := 2) (oi := { dst := some 9, op := Op.binOp BinOp.eql 42 (Operand.tmp 7) (Operand.tmp 8) 42, type := 4, pos := "state.go:40", after := #[{ on := 0, ground := Ground.data }, { on := 1, ground := Ground.data }], guard := none }) (v := .bool false) rfl (by kernel_rfl) (by kernel_rfl) (by kernel_rfl) (fun _ _ _ h => h) (Or.inl ⟨by rfl, by intro w hSw; (try dsimp only at hSw); (try have hSt := hSw.s.turns); go_simp⟩) (by assumption) ?_
        try simp only [Act.put, List.setIfInBounds_toArray, List.set_cons_zero, List.set_cons_succ]
        refine wpAnyH_take (i := 3) (oi := { dst := some 10, op := Op.move (Operand.tmp 9), type := 4, pos := "state.go:40", after := #[{ on := 2, ground := Ground.data }], guard := none }) (v := .bool false) rfl (by kernel_rfl) (by kernel_rfl) (by kernel_rfl) (fun _ _ _ h => h) (Or.inl ⟨by rfl, by intro w hSw; (try dsimp only at hSw); (try have hSt := hSw.s.turns); go_simp⟩) (by assumption) ?_
        try simp only [Act.put, List.setIfInBounds_toArray, List.set_cons_zero, List.set_cons_succ]
        refine wpAnyH_take (i := 4) (oi := { dst := some 11, op := Op.fieldAddr 42 (Operand.tmp 3) 0, type := 0, pos := "state.go:40", after := #[{ on := 3, ground := Ground.guard }], guard := some (3, false) }) (v := .pointer (some ⟨K + 1, 0, none⟩)) rfl (by kernel_rfl) (by kernel_rfl) (by kernel_rfl) (fun _ _ _ h => h) (Or.inl ⟨by rfl, by intro w hSw; (try dsimp only at hSw); (try have hSt := hSw.s.turns); go_simp⟩) (by assumption) ?_
        try simp only [Act.put, List.setIfInBounds_toArray, List.set_cons_zero, List.set_cons_succ]
        refine wpAnyH_take (i := 5) (oi := { dst := some 12, op := Op.load 37 (Operand.tmp 11), type := 37, pos := "state.go:40", after := #[{ on := 4, ground := Ground.data }, { on := 3, ground := Ground.guard }], guard := some (3, false) }) (v := .agg (iv S.hid).toArray) rfl (by kernel_rfl) (by kernel_rfl) (by kernel_rfl) (fun _ _ _ h => h) (yieldsIf_load_mid (by rfl) 37 (.tmp 11) (by rfl) (K + 1) 0 (by rfl) (iv S.hid) _ (fun w h => h.hid) hu1 rfl hi1) (by assumption) ?_
        try simp only [Act.put, List.setIfInBounds_toArray, List.set_cons_zero, List.set_cons_succ]
        refine wpAnyH_take (i := 6) (oi := { dst := some 13, op := Op.build 37 #[], type := 37, pos := "state.go:40", after := #[{ on := 3, ground := Ground.guard }], guard := some (3, false) }) (v := .agg #[.int .u8 0, .int .u8 0, .int .u8 0, .int .u8 0, .int .u8 0, .int .u8 0, .int .u8 0, .int .u8 0, .int .u8 0, .int .u8 0, .int .u8 0, .int .u8 0, .int .u8 0, .int .u8 0, .int .u8 0, .int .u8 0, .int .u8 0, .int .u8 0, .int .u8 0, .int .u8 0, .int .u8 0, .int .u8 0, .int .u8 0, .int .u8 0, .int .u8 0, .int .u8 0, .int .u8 0, .int .u8 0, .int .u8 0, .int .u8 0, .int .u8 0, .int .u8 0]) rfl (by kernel_rfl) (by kernel_rfl) (by kernel_rfl) (fun _ _ _ h => h) (Or.inl ⟨by rfl, by intro w hSw; (try dsimp only at hSw); (try have hSt := hSw.s.turns); go_simp⟩) (by assumption) ?_
        try simp only [Act.put, List.setIfInBounds_toArray, List.set_cons_zero, List.set_cons_succ]
        refine wpAnyH_take (i := 7) (oi := { dst := some 14, op := Op.binOp BinOp.neq 37 (Operand.tmp 12) (Operand.tmp 13) 37, type := 4, pos := "state.go:40", after := #[{ on := 5, ground := Ground.data }, { on := 6, ground := Ground.data }, { on := 3, ground := Ground.guard }], guard := some (3, false) }) (v := .bool true) rfl (by kernel_rfl) (by kernel_rfl) (by kernel_rfl) (fun _ _ _ h => h) (Or.inl ⟨by rfl, by intro w hSw; (try dsimp only at hSw); (try have hSt := hSw.s.turns); go_simp⟩) (by assumption) ?_
        try simp only [Act.put, List.setIfInBounds_toArray, List.set_cons_zero, List.set_cons_succ]
        refine wpAnyH_take (i := 8) (oi := { dst := some 15, op := Op.move (Operand.tmp 14), type := 4, pos := "state.go:40", after := #[{ on := 7, ground := Ground.data }, { on := 3, ground := Ground.chain }, { on := 3, ground := Ground.guard }], guard := some (3, false) }) (v := .bool true) rfl (by kernel_rfl) (by kernel_rfl) (by kernel_rfl) (fun _ _ _ h => h) (Or.inl ⟨by rfl, by intro w hSw; (try dsimp only at hSw); (try have hSt := hSw.s.turns); go_simp⟩) (by assumption) ?_
        try simp only [Act.put, List.setIfInBounds_toArray, List.set_cons_zero, List.set_cons_succ]
        refine wpAnyH_take (i := 9) (oi := { dst := some 16, op := Op.fieldAddr 45 (Operand.tmp 1) 7, type := 0, pos := "state.go:40", after := #[{ on := 8, ground := Ground.guard }], guard := some (8, true) }) (v := .pointer (some ⟨K, 209, none⟩)) rfl (by kernel_rfl) (by kernel_rfl) (by kernel_rfl) (fun _ _ _ h => h) (Or.inl ⟨by rfl, by intro w hSw; (try dsimp only at hSw); (try have hSt := hSw.s.turns); go_simp⟩) (by assumption) ?_
        try simp only [Act.put, List.setIfInBounds_toArray, List.set_cons_zero, List.set_cons_succ]
        refine wpAnyH_take (i := 10) (oi := { dst := some 17, op := Op.load 40 (Operand.tmp 16), type := 40, pos := "state.go:40", after := #[{ on := 9, ground := Ground.data }, { on := 8, ground := Ground.guard }], guard := some (8, true) }) (v := .int .u32 S.turns) rfl (by kernel_rfl) (by kernel_rfl) (by kernel_rfl) (fun _ _ _ h => h) (Or.inl ⟨by rfl, by intro w hSw; (try dsimp only at hSw); (try have hSt := hSw.s.turns); go_simp⟩) (by assumption) ?_
        try simp only [Act.put, List.setIfInBounds_toArray, List.set_cons_zero, List.set_cons_succ]
        refine wpAnyH_take (i := 11) (oi := { dst := some 18, op := Op.binOp BinOp.eql 40 (Operand.tmp 17) (Operand.const (Value.int IntKind.u32 0)) 40, type := 4, pos := "state.go:40", after := #[{ on := 10, ground := Ground.data }, { on := 8, ground := Ground.guard }], guard := some (8, true) }) (v := .bool false) rfl (by kernel_rfl) (by kernel_rfl) (by kernel_rfl) (fun _ _ _ h => h) (Or.inl ⟨by rfl, by intro w hSw; (try dsimp only at hSw); (try have hSt := hSw.s.turns); go_simp⟩) (by assumption) ?_
        try simp only [Act.put, List.setIfInBounds_toArray, List.set_cons_zero, List.set_cons_succ]
        refine wpAnyH_take (i := 12) (oi := { dst := some 19, op := Op.pick (Operand.tmp 15) (Operand.tmp 18) (Operand.const (Value.bool false)), type := 4, pos := "state.go:40", after := #[{ on := 8, ground := Ground.data }, { on := 11, ground := Ground.data }, { on := 3, ground := Ground.guard }], guard := some (3, false) }) (v := .bool false) rfl (by kernel_rfl) (by kernel_rfl) (by kernel_rfl) (fun _ _ _ h => h) (Or.inl ⟨by rfl, by intro w hSw; (try dsimp only at hSw); (try have hSt := hSw.s.turns); go_simp⟩) (by assumption) ?_
        try simp only [Act.put, List.setIfInBounds_toArray, List.set_cons_zero, List.set_cons_succ]
        refine wpAnyH_take (i := 13) (oi := { dst := some 20, op := Op.move (Operand.tmp 19), type := 4, pos := "state.go:40", after := #[{ on := 12, ground := Ground.data }, { on := 8, ground := Ground.chain }, { on := 3, ground := Ground.guard }], guard := some (3, false) }) (v := .bool false) rfl (by kernel_rfl) (by kernel_rfl) (by kernel_rfl) (fun _ _ _ h => h) (Or.inl ⟨by rfl, by intro w hSw; (try dsimp only at hSw); (try have hSt := hSw.s.turns); go_simp⟩) (by assumption) ?_
        try simp only [Act.put, List.setIfInBounds_toArray, List.set_cons_zero, List.set_cons_succ]
        refine wpAnyH_take (i := 14) (oi := { dst := some 21, op := Op.fieldAddr 42 (Operand.tmp 3) 0, type := 0, pos := "state.go:40", after := #[{ on := 13, ground := Ground.guard }], guard := some (13, true) }) (v := undef) rfl (by kernel_rfl) (by kernel_rfl) (by kernel_rfl) (fun _ _ _ h => h) (Or.inr ⟨by rfl, rfl⟩) (by assumption) ?_
        try simp only [Act.put, List.setIfInBounds_toArray, List.set_cons_zero, List.set_cons_succ]
        refine wpAnyH_take (i := 15) (oi := { dst := some 22, op := Op.load 37 (Operand.tmp 21), type := 37, pos := "state.go:40", after := #[{ on := 14, ground := Ground.data }, { on := 13, ground := Ground.guard }], guard := some (13, true) }) (v := undef) rfl (by kernel_rfl) (by kernel_rfl) (by kernel_rfl) (fun _ _ _ h => h) (Or.inr ⟨by rfl, rfl⟩) (by assumption) ?_
        try simp only [Act.put, List.setIfInBounds_toArray, List.set_cons_zero, List.set_cons_succ]
        refine wpAnyH_take (i := 16) (oi := { dst := some 23, op := Op.load 45 (Operand.tmp 1), type := 45, pos := "state.go:40", after := #[{ on := 13, ground := Ground.guard }], guard := some (13, true) }) (v := undef) rfl (by kernel_rfl) (by kernel_rfl) (by kernel_rfl) (fun _ _ _ h => h) (Or.inr ⟨by rfl, rfl⟩) (by assumption) ?_
        try simp only [Act.put, List.setIfInBounds_toArray, List.set_cons_zero, List.set_cons_succ]
        refine wpAnyH_take (i := 17) (oi := { dst := some 24, op := Op.call { callee := Callee.value (Operand.func 49), args := #[Operand.tmp 23], argTypes := #[45] }, type := 37, pos := "state.go:40", after := #[{ on := 16, ground := Ground.data }, { on := 13, ground := Ground.chain }, { on := 13, ground := Ground.guard }], guard := some (13, true) }) (v := undef) rfl (by kernel_rfl) (by kernel_rfl) (by kernel_rfl) (fun _ _ _ h => h) (Or.inr ⟨by rfl, rfl⟩) (by assumption) ?_
        try simp only [Act.put, List.setIfInBounds_toArray, List.set_cons_zero, List.set_cons_succ]
        refine wpAnyH_take (i := 18) (oi := { dst := some 25, op := Op.binOp BinOp.eql 37 (Operand.tmp 22) (Operand.tmp 24) 37, type := 4, pos := "state.go:40", after := #[{ on := 15, ground := Ground.data }, { on := 17, ground := Ground.data }, { on := 13, ground := Ground.guard }], guard := some (13, true) }) (v := undef) rfl (by kernel_rfl) (by kernel_rfl) (by kernel_rfl) (fun _ _ _ h => h) (Or.inr ⟨by rfl, rfl⟩) (by assumption) ?_
        try simp only [Act.put, List.setIfInBounds_toArray, List.set_cons_zero, List.set_cons_succ]
        refine wpAnyH_take (i := 19) (oi := { dst := some 26, op := Op.pick (Operand.tmp 20) (Operand.tmp 25) (Operand.const (Value.bool false)), type := 4, pos := "state.go:40", after := #[{ on := 13, ground := Ground.data }, { on := 18, ground := Ground.data }, { on := 3, ground := Ground.guard }], guard := some (3, false) }) (v := .bool false) rfl (by kernel_rfl) (by kernel_rfl) (by kernel_rfl) (fun _ _ _ h => h) (Or.inl ⟨by rfl, by intro w hSw; (try dsimp only at hSw); (try have hSt := hSw.s.turns); go_simp⟩) (by assumption) ?_
        try simp only [Act.put, List.setIfInBounds_toArray, List.set_cons_zero, List.set_cons_succ]
        refine wpAnyH_take (i := 20) (oi := { dst := some 27, op := Op.pick (Operand.tmp 10) (Operand.const (Value.bool true)) (Operand.tmp 26), type := 4, pos := "state.go:40", after := #[{ on := 3, ground := Ground.data }, { on := 19, ground := Ground.data }], guard := none }) (v := .bool false) rfl (by kernel_rfl) (by kernel_rfl) (by kernel_rfl) (fun _ _ _ h => h) (Or.inl ⟨by rfl, by intro w hSw; (try dsimp only at hSw); (try have hSt := hSw.s.turns); go_simp⟩) (by assumption) ?_
        try simp only [Act.put, List.setIfInBounds_toArray, List.set_cons_zero, List.set_cons_succ]
        refine wpAnyH_take (i := 21) (oi := { dst := some 4, op := Op.assign (Operand.tmp 27), type := 4, pos := "state.go:40", after := #[{ on := 20, ground := Ground.data }, { on := 17, ground := Ground.chain }, { on := 0, ground := Ground.phase }, { on := 1, ground := Ground.phase }, { on := 2, ground := Ground.phase }, { on := 3, ground := Ground.phase }, { on := 4, ground := Ground.phase }, { on := 5, ground := Ground.phase }, { on := 6, ground := Ground.phase }, { on := 7, ground := Ground.phase }, { on := 8, ground := Ground.phase }, { on := 9, ground := Ground.phase }, { on := 10, ground := Ground.phase }, { on := 11, ground := Ground.phase }, { on := 12, ground := Ground.phase }, { on := 13, ground := Ground.phase }, { on := 14, ground := Ground.phase }, { on := 15, ground := Ground.phase }, { on := 16, ground := Ground.phase }, { on := 17, ground := Ground.phase }, { on := 18, ground := Ground.phase }, { on := 19, ground := Ground.phase }, { on := 20, ground := Ground.phase }], guard := none }) (v := .bool false) rfl (by kernel_rfl) (by kernel_rfl) (by kernel_rfl) (fun _ _ _ h => h) (Or.inl ⟨by rfl, by intro w hSw; (try dsimp only at hSw); (try have hSt := hSw.s.turns); go_simp⟩) (by assumption) ?_
        try simp only [Act.put, List.setIfInBounds_toArray, List.set_cons_zero, List.set_cons_succ]
        refine wpAnyH_done (by kernel_rfl) ?_ _
        refine NoPanic.normal ?_
        have HM2 := Lib.hid hHeld
        clear hHeld
        cases v with
        | true =>
          go_wp2_with (first
            | (refine wpList_load_row (by rfl) 45 (.tmp 1) (by rfl) K (by rfl) 45 S.cl.toArray (0, 0) _ HM2.out.s.hp Try.underlying45 rfl (by rw [HZS.out]; kernel_rfl) ?_)
            | (go_at_call 50; go_must (refine (HCN.out _).mono ?_; rintro e w5 ⟨rfl, hk5⟩; have HK5 := Lib.hid (HM2.out.k.trans0 hk5); clear hk5)))
          go_ret
          exact ⟨by rw [HE.out]; rfl, HK5.out⟩
        | false =>
          go_wp2_with (first
            | (refine wpList_load_row (by rfl) 45 (.tmp 1) (by rfl) K (by rfl) 45 S.cl.toArray (0, 0) _ HM2.out.s.hp Try.underlying45 rfl (by rw [HZS.out]; kernel_rfl) ?_)
            | (go_at_call 50; go_must (refine (HCN.out _).mono ?_; rintro e w5 ⟨rfl, hk5⟩; have HK5 := Lib.hid (HM2.out.k.trans0 hk5); clear hk5)))
          go_ret
          exact ⟨by rw [HE.out]; rfl, HK5.out⟩
end Go.Proofs.Ytkceaepbjdfccaa
