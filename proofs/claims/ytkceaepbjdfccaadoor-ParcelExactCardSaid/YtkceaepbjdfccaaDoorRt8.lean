/-
letheref26.read.
-/
import Derived.Test.YtkceaepbjdfccaaDoorXB
namespace Go.Proofs.YtkceaepbjdfccaaDoor
open Go.RowKit
def zpart : Array Value := #[.int .u32 0, .int .i64 0, .int .i64 0, .string ⟨#[]⟩, .slice none 0 0]
/-- what read answers -/
def ReadAns (w : World) (b : List UInt8) (e : Ending) (w' : World) : Prop :=
  Kp [] w w' ∧ ((readL b = none ∧ e = .returned (.tuple #[.agg zpart, .bool false])) ∨ ∃ (q : Prt) (a : Option Addr) (c : Nat), readL b = some q ∧ e = .returned (.tuple #[.agg #[.int .u32 q.id, .int .i64 q.cnt, .int .i64 q.idx, .string (strOf q.sum), .slice a q.cont.length c], .bool true]) ∧ Own w' w.heap.size 5 (.slice a q.cont.length c) (bv q.cont))
theorem readL_longer {b : List UInt8} (h : 512 < b.length) : readL b = none := by
  obtain ⟨e1, e2, e3, e4, e5, e6⟩ := rs_long (b := b) (by omega)
  unfold readL
  by_cases h1 : (rs5 b).2.f ≠ 0 ∨ numL (rs1 b).1 ≠ 5
  · rw [if_pos h1]
  · rw [if_neg h1]
    by_cases h2 : numL (rs3 b).1 < 1 ∨ 64 < numL (rs3 b).1 ∨ numL (rs3 b).1 ≤ numL (rs4 b).1
    · rw [if_pos h2]
    · rw [if_neg h2, if_pos (.inl (by rw [e6, List.length_drop]; omega))]
theorem take1 {b : List UInt8} {i : Nat} (h : i < b.length) : (b.drop i).take 1 = [b[i]] := by
  rw [List.drop_eq_getElem_cons h]; rfl
theorem numL_one (x : UInt8) : numL [x] = (x.toNat : Int) := by
  have := x.toNat_lt
  show (0 * 256 + (x.toNat : Int)) % 4294967296 = _
  omega
theorem readL_mid {b : List UInt8} (h : 15 ≤ b.length) : readL b = if (b[0].toNat : Int) ≠ 5 then none else if (b[5].toNat : Int) < 1 ∨ (64 : Int) < (b[5].toNat : Int) ∨ (b[5].toNat : Int) ≤ (b[6].toNat : Int) then none else if 497 < b.length - 15 ∨ ((b[6].toNat : Int) < (b[5].toNat : Int) - 1 ∧ b.length - 15 < 497) ∨ (b.length - 15 = 0 ∧ (1 : Int) < (b[5].toNat : Int)) then none
      else some ⟨numL ((b.drop 1).take 4), (b[5].toNat : Int), (b[6].toNat : Int), (b.drop 7).take 8, b.drop 15⟩ := by
  obtain ⟨e1, e2, e3, e4, e5, e6⟩ := rs_long (b := b) h
  have n1 : numL (rs1 b).1 = (b[0].toNat : Int) := by rw [e1]; show numL ((b.drop 0).take 1) = _; rw [take1 (by omega), numL_one]
  have n3 : numL (rs3 b).1 = (b[5].toNat : Int) := by rw [e3]; show numL ((b.drop 5).take 1) = _; rw [take1 (by omega), numL_one]
  have n4 : numL (rs4 b).1 = (b[6].toNat : Int) := by rw [e4]; show numL ((b.drop 6).take 1) = _; rw [take1 (by omega), numL_one]
  unfold readL prtOf
  rw [n1, n3, n4, e2, e5, e6, List.length_drop]
  by_cases h0 : (b[0].toNat : Int) ≠ 5
  · rw [if_pos h0, if_pos (.inr h0)]
  · rw [if_neg h0, if_neg (by rintro (h | h); exact h rfl; exact h0 h)]
theorem numL_four {b : List UInt8} (h : 15 ≤ b.length) : numL ((b.drop 1).take 4) = word (b[1].toNat : Int) (b[2].toNat : Int) (b[3].toNat : Int) (b[4].toNat : Int) := by
  have e : (b.drop 1).take 4 = [b[1], b[2], b[3], b[4]] := by
    rw [List.drop_eq_getElem_cons (by omega), List.drop_eq_getElem_cons (by omega), List.drop_eq_getElem_cons (by omega), List.drop_eq_getElem_cons (by omega)]; rfl
  have h1 := b[1].toNat_lt
  have h2 := b[2].toNat_lt
  have h3 := b[3].toNat_lt
  have h4 := b[4].toNat_lt
  rw [e, word_eq (by unfold B8; omega) (by unfold B8; omega) (by unfold B8; omega) (by unfold B8; omega)]
  show ((((0 * 256 + (b[1].toNat : Int)) % 4294967296 * 256 + (b[2].toNat : Int)) % 4294967296 * 256 + (b[3].toNat : Int)) % 4294967296 * 256 + (b[4].toNat : Int)) % 4294967296 = _
  omega
theorem zpart_end {w w' : World} {b : List UInt8} {F : Func} {tmps : Array Value} (hF : F.results = #[.cell 2 147, .tmp 3]) (hp : tmps.getD 2 undef = .pointer (some ⟨w.heap.size, 0, none⟩)) (hu : tmps.getD 3 undef = .bool false)
    (hg : w'.heap[w.heap.size]? = some (.cells zpart 147 (0, 0))) (hk : Kp [] w w') (hn : readL b = none) : bodyPost Tryd.prog F (fun e w' => ReadAns w b e w') Exit.ret { tmps := tmps, defers := [] } w' :=
  bodyPost_ret (results_cell_row2 hF tmps w' w.heap.size 147 zpart (0, 0) _ hp hg Tryd.underlying147 rfl (by kernel_rfl)) rfl ⟨hk, .inl ⟨hn, by rw [hu]⟩⟩
set_option maxRecDepth 100000 in
set_option maxHeartbeats 8000000 in
theorem rread_any (v : Value) (b : List UInt8) (w : World) (hv : Rd w v (bv b)) (hb : b.length ≤ 211106232532992) :
    Calls Tryd.prog 75 #[v] w fun e w' => ReadAns w b e w' := by
  obtain ⟨ao, cap, rfl⟩ := hv.form
  rw [bv_length] at hv ⊢
  have HV := Lib.hid hv
  obtain ⟨n, hn⟩ : ∃ n, b.length = n := ⟨_, rfl⟩
  have HN := Lib.hid hn
  rw [hn] at HV ⊢
  by_cases h15 : n < 15
  · have HX : Hid (readL b = none) := Lib.hid (readL_short (by omega))
    have hI : (n : Int) < 15 := by omega
    clear hv hn
    go_enter Tryd.func75, Tryd.ntmps75
    go_wp2_with fail
    refine zpart_end rfl rfl rfl (heap_alloc_new w _) ((Kp.refl [] w).alloc _) HX.out
  · by_cases h512 : 512 < n
    · have HX : Hid (readL b = none) := Lib.hid (readL_longer (by omega))
      have hI : ¬ (n : Int) < 15 := by omega
      have hJ : (512 : Int) < (n : Int) := by omega
      clear hv hn h15 h512
      go_enter Tryd.func75, Tryd.ntmps75
      go_wp2_with fail
      refine zpart_end rfl rfl rfl (heap_alloc_new w _) ((Kp.refl [] w).alloc _) HX.out
    · have hI : ¬ (n : Int) < 15 := by omega
      have hJ : ¬ (512 : Int) < (n : Int) := by omega
      have h15b : 15 ≤ b.length := by omega
      have hRL := readL_mid h15b
      have hFO := numL_four h15b
      obtain ⟨blk, off, rfl, _, hc0⟩ := HV.out.byte (k := 0) (by omega)
      have HCB : Hid (∀ (i : Nat) (hi : i < b.length) W, Kp [] w W → W.cell? ⟨blk, off + i, none⟩ = some (.int .u8 ((b[i]'hi).toNat : Int))) := Lib.hid (fun i hi W k => by
        obtain ⟨b', o', he, _, hc⟩ := HV.out.byte (k := i) (by omega)
        simp only [Option.some.injEq, Addr.mk.injEq, and_true] at he
        obtain ⟨rfl, rfl⟩ := he
        exact k.cell_some hc (by simp))
      clear hv hn hc0
      by_cases h5 : (b[0].toNat : Int) ≠ 5
      · have HX : Hid (readL b = none) := Lib.hid (by rw [hRL, if_pos h5])
        have hc0 : (w.alloc (.cells zpart 147)).cell? ⟨blk, off, none⟩ = some (.int .u8 (b[0].toNat : Int)) := HCB.out 0 (by omega) _ ((Kp.refl [] w).alloc _)
        have hb5 : ((b[0].toNat : Int) == 5) = false := by rw [beq_eq_false_iff_ne]; exact h5
        obtain ⟨x0, hx0⟩ : ∃ x : Int, (b[0].toNat : Int) = x := ⟨_, rfl⟩
        rw [hx0] at hc0 hb5
        clear hRL hFO h5 hx0 h15 h512 h15b
        unfold zpart at hc0
        go_enter Tryd.func75, Tryd.ntmps75
        go_wp2_with fail
        refine zpart_end rfl rfl rfl (heap_alloc_new w _) ((Kp.refl [] w).alloc _) HX.out
      · have h5' : (b[0].toNat : Int) = 5 := by omega
        rw [if_neg h5, hFO] at hRL
        have hc0 : (w.alloc (.cells zpart 147)).cell? ⟨blk, off, none⟩ = some (.int .u8 5) := by have := HCB.out 0 (by omega) _ ((Kp.refl [] w).alloc (.cells zpart 147)); rw [h5'] at this; exact this
        have hc1 : ∀ W, Kp [] w W → W.cell? ⟨blk, off + 1, none⟩ = some (.int .u8 (b[1].toNat : Int)) := fun W k => HCB.out 1 (by omega) W k
        have hc2 : ∀ W, Kp [] w W → W.cell? ⟨blk, off + 2, none⟩ = some (.int .u8 (b[2].toNat : Int)) := fun W k => HCB.out 2 (by omega) W k
        have hc3 : ∀ W, Kp [] w W → W.cell? ⟨blk, off + 3, none⟩ = some (.int .u8 (b[3].toNat : Int)) := fun W k => HCB.out 3 (by omega) W k
        have hc4 : ∀ W, Kp [] w W → W.cell? ⟨blk, off + 4, none⟩ = some (.int .u8 (b[4].toNat : Int)) := fun W k => HCB.out 4 (by omega) W k
        have hc5 : ∀ W, Kp [] w W → W.cell? ⟨blk, off + 5, none⟩ = some (.int .u8 (b[5].toNat : Int)) := fun W k => HCB.out 5 (by omega) W k
        have hc6 : ∀ W, Kp [] w W → W.cell? ⟨blk, off + 6, none⟩ = some (.int .u8 (b[6].toNat : Int)) := fun W k => HCB.out 6 (by omega) W k
        have hB1 : (b[1].toNat : Int) < 256 := by have := b[1].toNat_lt; omega
        have hN1 : 0 ≤ (b[1].toNat : Int) := by omega
        have hB2 : (b[2].toNat : Int) < 256 := by have := b[2].toNat_lt; omega
        have hN2 : 0 ≤ (b[2].toNat : Int) := by omega
        have hB3 : (b[3].toNat : Int) < 256 := by have := b[3].toNat_lt; omega
        have hN3 : 0 ≤ (b[3].toNat : Int) := by omega
        have hB4 : (b[4].toNat : Int) < 256 := by have := b[4].toNat_lt; omega
        have hN4 : 0 ≤ (b[4].toNat : Int) := by omega
        have hB5 : (b[5].toNat : Int) < 256 := by have := b[5].toNat_lt; omega
        have hN5 : 0 ≤ (b[5].toNat : Int) := by omega
        have hB6 : (b[6].toNat : Int) < 256 := by have := b[6].toNat_lt; omega
        have hN6 : 0 ≤ (b[6].toNat : Int) := by omega
        generalize (b[1].toNat : Int) = x1 at *
        generalize (b[2].toNat : Int) = x2 at *
        generalize (b[3].toNat : Int) = x3 at *
        generalize (b[4].toNat : Int) = x4 at *
        generalize (b[5].toNat : Int) = x5 at *
        generalize (b[6].toNat : Int) = x6 at *
        have hK1 : ¬ (n : Int) ≤ 1 := by omega
        have hK2 : ¬ (n : Int) ≤ 2 := by omega
        have hK3 : ¬ (n : Int) ≤ 3 := by omega
        have hK4 : ¬ (n : Int) ≤ 4 := by omega
        have hK5 : ¬ (n : Int) ≤ 5 := by omega
        have hK6 : ¬ (n : Int) ≤ 6 := by omega
        rw [HN.out] at hRL
        have HRL := Lib.hid hRL
        obtain ⟨s7, n7, c7, hs7, hr7⟩ := run_subb_lh el_byt HV.out 7 15 (by decide) (by decide) (by omega)
        rw [show (15 : Int).toNat = 15 from rfl, show (7 : Int).toNat = 7 from rfl, List.drop_take] at hr7
        obtain ⟨s8, n8, c8, hs8, hr8⟩ := run_subb_l el_byt HV.out 15 (by decide) (by omega)
        rw [show (15 : Int).toNat = 15 from rfl] at hr8
        have HR8 := Lib.hid hr8
        have hcv : ∀ W, Kp [] w W → (convert 27 9 (.slice s7 n7 c7)).run Tryd.prog W = .ok (.string (strOf ((b.drop 7).take 8))) W := fun W k => run_str Tryd.underlying27 Tryd.underlying5 Tryd.underlying9 (hr7.kp0 k)
        have HCL : Hid ((b.drop 15).length = n - 15) := Lib.hid (by rw [List.length_drop, HN.out])
        clear hRL hFO h5 h5' h15b hr7 hr8 HCB
        generalize (b.drop 7).take 8 = sm at *
        generalize b.drop 15 = ct at *
        unfold zpart at hc0
        go_enter Tryd.func75, Tryd.ntmps75
        go_upto_region 3 with fail
        clear hc0
        obtain ⟨w1, hw1⟩ : ∃ w1, w.alloc (.cells zpart 147) = w1 := ⟨_, rfl⟩
        have HK1 : Hid (Kp [] w w1) := Lib.hid (by rw [← hw1]; exact (Kp.refl [] w).alloc _)
        have HP1 : Hid (w1.heap[w.heap.size]? = some (.cells zpart 147 (0, 0))) := Lib.hid (by rw [← hw1]; exact heap_alloc_new w _)
        unfold zpart at hw1
        have hw1' : w.alloc (.cells #[.int .u32 0, .int .i64 0, .int .i64 0, .string ⟨#[]⟩, .slice none 0 0] 147) = w1 := hw1
        rw [hw1']
        clear hw1 hw1'
        go_cut [4] (fun pv w' => ∃ (g : Nat) (a : Option Addr) (c : Nat), pv = .pointer (some ⟨g, 0, none⟩) ∧ Hid (Kp [] w w' ∧ w'.heap[w.heap.size]? = some (.cells zpart 147 (0, 0)) ∧ g ≠ w.heap.size ∧ w'.heap[g]? = some (.cells #[.int .u32 (word x1 x2 x3 x4), .int .i64 x5, .int .i64 x6, .string (strOf sm), .slice a ct.length c] 147 (0, 0)) ∧ Own w' w.heap.size 5 (.slice a ct.length c) (bv ct)))
        case first =>
          refine wp_region_noPanic ?_
          refine wp_region_held_drew (S := fun W => Kp [] w1 W) (by kernel_rfl) ((Kp.refl [] w1).drew) (fun hHeld => ?_)
          refine wpAnyH_take (i := 0) (oi := { dst := some 20, op := Op.move (Operand.tmp 0), type := 27, pos := "ref.go:86", after := #[], guard := none }) (v := .slice (some ⟨blk, off, none⟩) n cap) rfl (by kernel_rfl) (by kernel_rfl) (by kernel_rfl) (fun _ _ _ h => h) (Or.inl ⟨by rfl, by intro w hSw; (try dsimp only at hSw); go_simp; try rfl⟩) (by assumption) ?_
          try simp only [Act.put, List.setIfInBounds_toArray, List.set_cons_zero, List.set_cons_succ]
          refine wpAnyH_take (i := 1) (oi := { dst := some 21, op := Op.indexAddr 27 (Operand.tmp 20) (Operand.const (Value.int IntKind.i64 1)), type := 0, pos := "ref.go:86", after := #[{ on := 0, ground := Ground.data }], guard := none }) (v := .pointer (some ⟨blk, off + 1, none⟩)) rfl (by kernel_rfl) (by kernel_rfl) (by kernel_rfl) (fun _ _ _ h => h) (Or.inl ⟨by rfl, by intro w hSw; (try dsimp only at hSw); go_simp; try rfl⟩) (by assumption) ?_
          try simp only [Act.put, List.setIfInBounds_toArray, List.set_cons_zero, List.set_cons_succ]
          refine wpAnyH_take (i := 2) (oi := { dst := some 22, op := Op.load 5 (Operand.tmp 21), type := 5, pos := "ref.go:86", after := #[{ on := 1, ground := Ground.data }], guard := none }) (v := .int .u8 x1) rfl (by kernel_rfl) (by kernel_rfl) (by kernel_rfl) (fun _ _ _ h => h) (Or.inl ⟨by rfl, by intro w hSw; (try dsimp only at hSw); have hcx := hc1 _ (HK1.out.trans0 hSw); go_simp; try rfl⟩) (by assumption) ?_
          try simp only [Act.put, List.setIfInBounds_toArray, List.set_cons_zero, List.set_cons_succ]
          refine wpAnyH_take (i := 3) (oi := { dst := some 23, op := Op.convert 5 48 (Operand.tmp 22), type := 48, pos := "ref.go:86", after := #[{ on := 2, ground := Ground.data }], guard := none }) (v := .int .u32 (x1 % 4294967296)) rfl (by kernel_rfl) (by kernel_rfl) (by kernel_rfl) (fun _ _ _ h => h) (Or.inl ⟨by rfl, by intro w hSw; (try dsimp only at hSw); go_simp; try rfl⟩) (by assumption) ?_
          try simp only [Act.put, List.setIfInBounds_toArray, List.set_cons_zero, List.set_cons_succ]
          refine wpAnyH_take (i := 4) (oi := { dst := some 24, op := Op.binOp BinOp.shl 48 (Operand.tmp 23) (Operand.const (Value.int IntKind.u64 24)) 80, type := 48, pos := "ref.go:86", after := #[{ on := 3, ground := Ground.data }], guard := none }) (v := .int .u32 (x1 % 4294967296 * 16777216 % 4294967296)) rfl (by kernel_rfl) (by kernel_rfl) (by kernel_rfl) (fun _ _ _ h => h) (Or.inl ⟨by rfl, by intro w hSw; (try dsimp only at hSw); go_simp; try rfl⟩) (by assumption) ?_
          try simp only [Act.put, List.setIfInBounds_toArray, List.set_cons_zero, List.set_cons_succ]
          refine wpAnyH_take (i := 5) (oi := { dst := some 25, op := Op.move (Operand.tmp 0), type := 27, pos := "ref.go:86", after := #[], guard := none }) (v := .slice (some ⟨blk, off, none⟩) n cap) rfl (by kernel_rfl) (by kernel_rfl) (by kernel_rfl) (fun _ _ _ h => h) (Or.inl ⟨by rfl, by intro w hSw; (try dsimp only at hSw); go_simp; try rfl⟩) (by assumption) ?_
          try simp only [Act.put, List.setIfInBounds_toArray, List.set_cons_zero, List.set_cons_succ]
          refine wpAnyH_take (i := 6) (oi := { dst := some 26, op := Op.indexAddr 27 (Operand.tmp 25) (Operand.const (Value.int IntKind.i64 2)), type := 0, pos := "ref.go:86", after := #[{ on := 5, ground := Ground.data }], guard := none }) (v := .pointer (some ⟨blk, off + 2, none⟩)) rfl (by kernel_rfl) (by kernel_rfl) (by kernel_rfl) (fun _ _ _ h => h) (Or.inl ⟨by rfl, by intro w hSw; (try dsimp only at hSw); go_simp; try rfl⟩) (by assumption) ?_
          try simp only [Act.put, List.setIfInBounds_toArray, List.set_cons_zero, List.set_cons_succ]
          refine wpAnyH_take (i := 7) (oi := { dst := some 27, op := Op.load 5 (Operand.tmp 26), type := 5, pos := "ref.go:86", after := #[{ on := 6, ground := Ground.data }], guard := none }) (v := .int .u8 x2) rfl (by kernel_rfl) (by kernel_rfl) (by kernel_rfl) (fun _ _ _ h => h) (Or.inl ⟨by rfl, by intro w hSw; (try dsimp only at hSw); have hcx := hc2 _ (HK1.out.trans0 hSw); go_simp; try rfl⟩) (by assumption) ?_
          try simp only [Act.put, List.setIfInBounds_toArray, List.set_cons_zero, List.set_cons_succ]
          refine wpAnyH_take (i := 8) (oi := { dst := some 28, op := Op.convert 5 48 (Operand.tmp 27), type := 48, pos := "ref.go:86", after := #[{ on := 7, ground := Ground.data }], guard := none }) (v := .int .u32 (x2 % 4294967296)) rfl (by kernel_rfl) (by kernel_rfl) (by kernel_rfl) (fun _ _ _ h => h) (Or.inl ⟨by rfl, by intro w hSw; (try dsimp only at hSw); go_simp; try rfl⟩) (by assumption) ?_
          try simp only [Act.put, List.setIfInBounds_toArray, List.set_cons_zero, List.set_cons_succ]
          refine wpAnyH_take (i := 9) (oi := { dst := some 29, op := Op.binOp BinOp.shl 48 (Operand.tmp 28) (Operand.const (Value.int IntKind.u64 16)) 80, type := 48, pos := "ref.go:86", after := #[{ on := 8, ground := Ground.data }], guard := none }) (v := .int .u32 (x2 % 4294967296 * 65536 % 4294967296)) rfl (by kernel_rfl) (by kernel_rfl) (by kernel_rfl) (fun _ _ _ h => h) (Or.inl ⟨by rfl, by intro w hSw; (try dsimp only at hSw); go_simp; try rfl⟩) (by assumption) ?_
          try simp only [Act.put, List.setIfInBounds_toArray, List.set_cons_zero, List.set_cons_succ]
          refine wpAnyH_take (i := 10) (oi := { dst := some 30, op := Op.binOp BinOp.or 48 (Operand.tmp 24) (Operand.tmp 29) 48, type := 48, pos := "ref.go:86", after := #[{ on := 4, ground := Ground.data }, { on := 9, ground := Ground.data }], guard := none }) (v := .int .u32 (bits .or .u32 (x1 % 4294967296 * 16777216 % 4294967296) (x2 % 4294967296 * 65536 % 4294967296))) rfl (by kernel_rfl) (by kernel_rfl) (by kernel_rfl) (fun _ _ _ h => h) (Or.inl ⟨by rfl, by intro w hSw; (try dsimp only at hSw); go_simp; try rfl⟩) (by assumption) ?_
          try simp only [Act.put, List.setIfInBounds_toArray, List.set_cons_zero, List.set_cons_succ]
          refine wpAnyH_take (i := 11) (oi := { dst := some 31, op := Op.move (Operand.tmp 0), type := 27, pos := "ref.go:86", after := #[], guard := none }) (v := .slice (some ⟨blk, off, none⟩) n cap) rfl (by kernel_rfl) (by kernel_rfl) (by kernel_rfl) (fun _ _ _ h => h) (Or.inl ⟨by rfl, by intro w hSw; (try dsimp only at hSw); go_simp; try rfl⟩) (by assumption) ?_
          try simp only [Act.put, List.setIfInBounds_toArray, List.set_cons_zero, List.set_cons_succ]
          refine wpAnyH_take (i := 12) (oi := { dst := some 32, op := Op.indexAddr 27 (Operand.tmp 31) (Operand.const (Value.int IntKind.i64 3)), type := 0, pos := "ref.go:86", after := #[{ on := 11, ground := Ground.data }], guard := none }) (v := .pointer (some ⟨blk, off + 3, none⟩)) rfl (by kernel_rfl) (by kernel_rfl) (by kernel_rfl) (fun _ _ _ h => h) (Or.inl ⟨by rfl, by intro w hSw; (try dsimp only at hSw); go_simp; try rfl⟩) (by assumption) ?_
          try simp only [Act.put, List.setIfInBounds_toArray, List.set_cons_zero, List.set_cons_succ]
          refine wpAnyH_take (i := 13) (oi := { dst := some 33, op := Op.load 5 (Operand.tmp 32), type := 5, pos := "ref.go:86", after := #[{ on := 12, ground := Ground.data }], guard := none }) (v := .int .u8 x3) rfl (by kernel_rfl) (by kernel_rfl) (by kernel_rfl) (fun _ _ _ h => h) (Or.inl ⟨by rfl, by intro w hSw; (try dsimp only at hSw); have hcx := hc3 _ (HK1.out.trans0 hSw); go_simp; try rfl⟩) (by assumption) ?_
          try simp only [Act.put, List.setIfInBounds_toArray, List.set_cons_zero, List.set_cons_succ]
          refine wpAnyH_take (i := 14) (oi := { dst := some 34, op := Op.convert 5 48 (Operand.tmp 33), type := 48, pos := "ref.go:86", after := #[{ on := 13, ground := Ground.data }], guard := none }) (v := .int .u32 (x3 % 4294967296)) rfl (by kernel_rfl) (by kernel_rfl) (by kernel_rfl) (fun _ _ _ h => h) (Or.inl ⟨by rfl, by intro w hSw; (try dsimp only at hSw); go_simp; try rfl⟩) (by assumption) ?_
          try simp only [Act.put, List.setIfInBounds_toArray, List.set_cons_zero, List.set_cons_succ]
          refine wpAnyH_take (i := 15) (oi := { dst := some 35, op := Op.binOp BinOp.shl 48 (Operand.tmp 34) (Operand.const (Value.int IntKind.u64 8)) 80, type := 48, pos := "ref.go:86", after := #[{ on := 14, ground := Ground.data }], guard := none }) (v := .int .u32 (x3 % 4294967296 * 256 % 4294967296)) rfl (by kernel_rfl) (by kernel_rfl) (by kernel_rfl) (fun _ _ _ h => h) (Or.inl ⟨by rfl, by intro w hSw; (try dsimp only at hSw); go_simp; try rfl⟩) (by assumption) ?_
          try simp only [Act.put, List.setIfInBounds_toArray, List.set_cons_zero, List.set_cons_succ]
          refine wpAnyH_take (i := 16) (oi := { dst := some 36, op := Op.binOp BinOp.or 48 (Operand.tmp 30) (Operand.tmp 35) 48, type := 48, pos := "ref.go:86", after := #[{ on := 10, ground := Ground.data }, { on := 15, ground := Ground.data }], guard := none }) (v := .int .u32 (bits .or .u32 (bits .or .u32 (x1 % 4294967296 * 16777216 % 4294967296) (x2 % 4294967296 * 65536 % 4294967296)) (x3 % 4294967296 * 256 % 4294967296))) rfl (by kernel_rfl) (by kernel_rfl) (by kernel_rfl) (fun _ _ _ h => h) (Or.inl ⟨by rfl, by intro w hSw; (try dsimp only at hSw); go_simp; try rfl⟩) (by assumption) ?_
          try simp only [Act.put, List.setIfInBounds_toArray, List.set_cons_zero, List.set_cons_succ]
          refine wpAnyH_take (i := 17) (oi := { dst := some 37, op := Op.move (Operand.tmp 0), type := 27, pos := "ref.go:86", after := #[], guard := none }) (v := .slice (some ⟨blk, off, none⟩) n cap) rfl (by kernel_rfl) (by kernel_rfl) (by kernel_rfl) (fun _ _ _ h => h) (Or.inl ⟨by rfl, by intro w hSw; (try dsimp only at hSw); go_simp; try rfl⟩) (by assumption) ?_
          try simp only [Act.put, List.setIfInBounds_toArray, List.set_cons_zero, List.set_cons_succ]
          refine wpAnyH_take (i := 18) (oi := { dst := some 38, op := Op.indexAddr 27 (Operand.tmp 37) (Operand.const (Value.int IntKind.i64 4)), type := 0, pos := "ref.go:86", after := #[{ on := 17, ground := Ground.data }], guard := none }) (v := .pointer (some ⟨blk, off + 4, none⟩)) rfl (by kernel_rfl) (by kernel_rfl) (by kernel_rfl) (fun _ _ _ h => h) (Or.inl ⟨by rfl, by intro w hSw; (try dsimp only at hSw); go_simp; try rfl⟩) (by assumption) ?_
          try simp only [Act.put, List.setIfInBounds_toArray, List.set_cons_zero, List.set_cons_succ]
          refine wpAnyH_take (i := 19) (oi := { dst := some 39, op := Op.load 5 (Operand.tmp 38), type := 5, pos := "ref.go:86", after := #[{ on := 18, ground := Ground.data }], guard := none }) (v := .int .u8 x4) rfl (by kernel_rfl) (by kernel_rfl) (by kernel_rfl) (fun _ _ _ h => h) (Or.inl ⟨by rfl, by intro w hSw; (try dsimp only at hSw); have hcx := hc4 _ (HK1.out.trans0 hSw); go_simp; try rfl⟩) (by assumption) ?_
          try simp only [Act.put, List.setIfInBounds_toArray, List.set_cons_zero, List.set_cons_succ]
          refine wpAnyH_take (i := 20) (oi := { dst := some 40, op := Op.convert 5 48 (Operand.tmp 39), type := 48, pos := "ref.go:86", after := #[{ on := 19, ground := Ground.data }], guard := none }) (v := .int .u32 (x4 % 4294967296)) rfl (by kernel_rfl) (by kernel_rfl) (by kernel_rfl) (fun _ _ _ h => h) (Or.inl ⟨by rfl, by intro w hSw; (try dsimp only at hSw); go_simp; try rfl⟩) (by assumption) ?_
          try simp only [Act.put, List.setIfInBounds_toArray, List.set_cons_zero, List.set_cons_succ]
          refine wpAnyH_take (i := 21) (oi := { dst := some 41, op := Op.binOp BinOp.or 48 (Operand.tmp 36) (Operand.tmp 40) 48, type := 48, pos := "ref.go:86", after := #[{ on := 16, ground := Ground.data }, { on := 20, ground := Ground.data }], guard := none }) (v := .int .u32 (word x1 x2 x3 x4)) rfl (by kernel_rfl) (by kernel_rfl) (by kernel_rfl) (fun _ _ _ h => h) (Or.inl ⟨by rfl, by intro w hSw; (try dsimp only at hSw); go_simp; try rfl⟩) (by assumption) ?_
          try simp only [Act.put, List.setIfInBounds_toArray, List.set_cons_zero, List.set_cons_succ]
          refine wpAnyH_take (i := 22) (oi := { dst := some 42, op := Op.move (Operand.tmp 0), type := 27, pos := "ref.go:86", after := #[], guard := none }) (v := .slice (some ⟨blk, off, none⟩) n cap) rfl (by kernel_rfl) (by kernel_rfl) (by kernel_rfl) (fun _ _ _ h => h) (Or.inl ⟨by rfl, by intro w hSw; (try dsimp only at hSw); go_simp; try rfl⟩) (by assumption) ?_
          try simp only [Act.put, List.setIfInBounds_toArray, List.set_cons_zero, List.set_cons_succ]
          refine wpAnyH_take (i := 23) (oi := { dst := some 43, op := Op.indexAddr 27 (Operand.tmp 42) (Operand.const (Value.int IntKind.i64 5)), type := 0, pos := "ref.go:86", after := #[{ on := 22, ground := Ground.data }], guard := none }) (v := .pointer (some ⟨blk, off + 5, none⟩)) rfl (by kernel_rfl) (by kernel_rfl) (by kernel_rfl) (fun _ _ _ h => h) (Or.inl ⟨by rfl, by intro w hSw; (try dsimp only at hSw); go_simp; try rfl⟩) (by assumption) ?_
          try simp only [Act.put, List.setIfInBounds_toArray, List.set_cons_zero, List.set_cons_succ]
          refine wpAnyH_take (i := 24) (oi := { dst := some 44, op := Op.load 5 (Operand.tmp 43), type := 5, pos := "ref.go:86", after := #[{ on := 23, ground := Ground.data }], guard := none }) (v := .int .u8 x5) rfl (by kernel_rfl) (by kernel_rfl) (by kernel_rfl) (fun _ _ _ h => h) (Or.inl ⟨by rfl, by intro w hSw; (try dsimp only at hSw); have hcx := hc5 _ (HK1.out.trans0 hSw); go_simp; try rfl⟩) (by assumption) ?_
          try simp only [Act.put, List.setIfInBounds_toArray, List.set_cons_zero, List.set_cons_succ]
          refine wpAnyH_take (i := 25) (oi := { dst := some 45, op := Op.convert 5 3 (Operand.tmp 44), type := 3, pos := "ref.go:86", after := #[{ on := 24, ground := Ground.data }], guard := none }) (v := .int .i64 x5) rfl (by kernel_rfl) (by kernel_rfl) (by kernel_rfl) (fun _ _ _ h => h) (Or.inl ⟨by rfl, by intro w hSw; (try dsimp only at hSw); go_simp; rw [IntKind.wrap_i64]; omega⟩) (by assumption) ?_
          try simp only [Act.put, List.setIfInBounds_toArray, List.set_cons_zero, List.set_cons_succ]
          refine wpAnyH_take (i := 26) (oi := { dst := some 46, op := Op.move (Operand.tmp 0), type := 27, pos := "ref.go:86", after := #[], guard := none }) (v := .slice (some ⟨blk, off, none⟩) n cap) rfl (by kernel_rfl) (by kernel_rfl) (by kernel_rfl) (fun _ _ _ h => h) (Or.inl ⟨by rfl, by intro w hSw; (try dsimp only at hSw); go_simp; try rfl⟩) (by assumption) ?_
          try simp only [Act.put, List.setIfInBounds_toArray, List.set_cons_zero, List.set_cons_succ]
          refine wpAnyH_take (i := 27) (oi := { dst := some 47, op := Op.indexAddr 27 (Operand.tmp 46) (Operand.const (Value.int IntKind.i64 6)), type := 0, pos := "ref.go:86", after := #[{ on := 26, ground := Ground.data }], guard := none }) (v := .pointer (some ⟨blk, off + 6, none⟩)) rfl (by kernel_rfl) (by kernel_rfl) (by kernel_rfl) (fun _ _ _ h => h) (Or.inl ⟨by rfl, by intro w hSw; (try dsimp only at hSw); go_simp; try rfl⟩) (by assumption) ?_
          try simp only [Act.put, List.setIfInBounds_toArray, List.set_cons_zero, List.set_cons_succ]
          refine wpAnyH_take (i := 28) (oi := { dst := some 48, op := Op.load 5 (Operand.tmp 47), type := 5, pos := "ref.go:86", after := #[{ on := 27, ground := Ground.data }], guard := none }) (v := .int .u8 x6) rfl (by kernel_rfl) (by kernel_rfl) (by kernel_rfl) (fun _ _ _ h => h) (Or.inl ⟨by rfl, by intro w hSw; (try dsimp only at hSw); have hcx := hc6 _ (HK1.out.trans0 hSw); go_simp; try rfl⟩) (by assumption) ?_
          try simp only [Act.put, List.setIfInBounds_toArray, List.set_cons_zero, List.set_cons_succ]
          refine wpAnyH_take (i := 29) (oi := { dst := some 49, op := Op.convert 5 3 (Operand.tmp 48), type := 3, pos := "ref.go:86", after := #[{ on := 28, ground := Ground.data }], guard := none }) (v := .int .i64 x6) rfl (by kernel_rfl) (by kernel_rfl) (by kernel_rfl) (fun _ _ _ h => h) (Or.inl ⟨by rfl, by intro w hSw; (try dsimp only at hSw); go_simp; rw [IntKind.wrap_i64]; omega⟩) (by assumption) ?_
          try simp only [Act.put, List.setIfInBounds_toArray, List.set_cons_zero, List.set_cons_succ]
          refine wpAnyH_take (i := 30) (oi := { dst := some 50, op := Op.move (Operand.tmp 0), type := 27, pos := "ref.go:86", after := #[], guard := none }) (v := .slice (some ⟨blk, off, none⟩) n cap) rfl (by kernel_rfl) (by kernel_rfl) (by kernel_rfl) (fun _ _ _ h => h) (Or.inl ⟨by rfl, by intro w hSw; (try dsimp only at hSw); go_simp; try rfl⟩) (by assumption) ?_
          try simp only [Act.put, List.setIfInBounds_toArray, List.set_cons_zero, List.set_cons_succ]
          refine wpAnyH_take (i := 31) (oi := { dst := some 51, op := Op.slice 27 (Operand.tmp 50) (some (Operand.const (Value.int IntKind.i64 7))) (some (Operand.const (Value.int IntKind.i64 15))) none, type := 27, pos := "ref.go:86", after := #[{ on := 30, ground := Ground.data }], guard := none }) (v := .slice s7 n7 c7) rfl (by kernel_rfl) (by kernel_rfl) (by kernel_rfl) (fun _ _ _ h => h) (Or.inl ⟨by rfl, by intro w hSw; (try dsimp only at hSw); go_simp; try rfl⟩) (by assumption) ?_
          try simp only [Act.put, List.setIfInBounds_toArray, List.set_cons_zero, List.set_cons_succ]
          refine wpAnyH_take (i := 32) (oi := { dst := some 52, op := Op.convert 27 9 (Operand.tmp 51), type := 9, pos := "ref.go:86", after := #[{ on := 31, ground := Ground.data }], guard := none }) (v := .string (strOf sm)) rfl (by kernel_rfl) (by kernel_rfl) (by kernel_rfl) (fun _ _ _ h => h) (Or.inl ⟨by rfl, by intro w hSw; (try dsimp only at hSw); have hcx := hcv _ (HK1.out.trans0 hSw); go_simp; try rfl⟩) (by assumption) ?_
          try simp only [Act.put, List.setIfInBounds_toArray, List.set_cons_zero, List.set_cons_succ]
          refine wpAnyH_take (i := 34) (oi := { dst := some 54, op := Op.move (Operand.tmp 0), type := 27, pos := "ref.go:86", after := #[], guard := none }) (v := .slice (some ⟨blk, off, none⟩) n cap) rfl (by kernel_rfl) (by kernel_rfl) (by kernel_rfl) (fun _ _ _ h => h) (Or.inl ⟨by rfl, by intro w hSw; (try dsimp only at hSw); go_simp; try rfl⟩) (by assumption) ?_
          try simp only [Act.put, List.setIfInBounds_toArray, List.set_cons_zero, List.set_cons_succ]
          refine wpAnyH_take (i := 35) (oi := { dst := some 55, op := Op.slice 27 (Operand.tmp 54) (some (Operand.const (Value.int IntKind.i64 15))) none none, type := 27, pos := "ref.go:86", after := #[{ on := 34, ground := Ground.data }], guard := none }) (v := .slice s8 n8 c8) rfl (by kernel_rfl) (by kernel_rfl) (by kernel_rfl) (fun _ _ _ h => h) (Or.inl ⟨by rfl, by intro w hSw; (try dsimp only at hSw); go_simp; try rfl⟩) (by assumption) ?_
          try simp only [Act.put, List.setIfInBounds_toArray, List.set_cons_zero, List.set_cons_succ]
          generalize w1.drew = wd at *
          refine wpAnyH_ready (rs := [33, 38]) (by kernel_rfl) (by simp) ?_
          refine AllReadyH.cons (o := { dst := some 53, op := Op.buildSlice 27 0 #[], type := 27, pos := "ref.go:86", after := #[], guard := none }) rfl (fun K' hK => ?_) (AllReadyH.cons (o := { dst := some 4, op := Op.alloc 147, type := 0, pos := "ref.go:86", after := #[], guard := none }) rfl (fun K' hK => ?_) AllReadyH.nil)
          · go_simp
            have k33 : Kp [] wd (wd.alloc (.cells #[] 5)) := (Kp.refl [] wd).alloc _
            have ho : Own (wd.alloc (.cells #[] 5)) wd.heap.size 5 (.slice (some ⟨wd.heap.size, 0, none⟩) 0 0) (bv []) := Own.lit wd 5 #[] (Nat.le_refl _) (by simp)
            have hle33 : w1.heap.size ≤ wd.heap.size := hHeld.size
            (try go_simp)
            refine hK.out _ _ (hHeld.trans0 k33) (fun hHeld => ?_)
            clear hK K'
            try simp only [Act.put, List.setIfInBounds_toArray, List.set_cons_zero, List.set_cons_succ]
            clear k33
            generalize wd.alloc (.cells #[] 5) = wa at *
            generalize wd.heap.size = g33 at *
            refine wpAnyH_ready (rs := [36, 38]) (by kernel_rfl) (by simp) ?_
            refine AllReadyH.cons (o := { dst := some 56, op := Op.call { callee := Callee.builtin Builtin.append, args := #[Operand.tmp 53, Operand.tmp 55], argTypes := #[27, 27] }, type := 27, pos := "ref.go:86", after := #[{ on := 33, ground := Ground.data }, { on := 35, ground := Ground.data }], guard := none }) rfl (fun K' hK => ?_) (AllReadyH.cons (o := { dst := some 4, op := Op.alloc 147, type := 0, pos := "ref.go:86", after := #[], guard := none }) rfl (fun K' hK => ?_) AllReadyH.nil)
            · as_aux_lemma =>
              refine op_append (v := .slice (some ⟨g33, 0, none⟩) 0 0) el_u8 _ _ rfl rfl rfl ho (HR8.out.kp0 (HK1.out.trans0 hHeld)) (bv_oneCell _) (by show 0 + (bv ct).length ≤ _; rw [bv_length, HCL.out]; omega) (by show (0 + (bv ct).length) * 1 ≤ _; rw [bv_length, HCL.out]; omega) (Nat.le_of_lt (ho.lt rfl).2) ?_
              intro v15 wb ho15 hg15
              have k36 : Kp [] w1 wb := hHeld.grown hg15 (fun k hk => by cases hk; exact .inr hle33)
              rw [show bv [] ++ bv ct = bv ct from rfl] at ho15
              obtain ⟨a15, c15, hv15⟩ := ho15.rd.form
              rw [bv_length] at hv15
              subst hv15
              replace ho := ho15.base (B' := w.heap.size) (Nat.le_trans HK1.out.size hle33)
              clear ho15 hg15 hle33
              (try go_simp)
              refine hK.out _ _ (k36) (fun hHeld => ?_)
              clear hK K'
              try simp only [Act.put, List.setIfInBounds_toArray, List.set_cons_zero, List.set_cons_succ]
              clear k36
              refine wpAnyH_take (i := 37) (oi := { dst := some 57, op := Op.build 147 #[(0, Operand.tmp 41), (1, Operand.tmp 45), (2, Operand.tmp 49), (3, Operand.tmp 52), (4, Operand.tmp 56)], type := 147, pos := "ref.go:86", after := #[{ on := 21, ground := Ground.data }, { on := 25, ground := Ground.data }, { on := 29, ground := Ground.data }, { on := 32, ground := Ground.data }, { on := 36, ground := Ground.data }], guard := none }) (v := .agg #[.int .u32 (word x1 x2 x3 x4), .int .i64 x5, .int .i64 x6, .string (strOf sm), .slice a15 ct.length c15]) rfl (by kernel_rfl) (by kernel_rfl) (by kernel_rfl) (fun _ _ _ h => h) (Or.inl ⟨by rfl, by intro w hSw; (try dsimp only at hSw); go_simp; try rfl⟩) (by assumption) ?_
              try simp only [Act.put, List.setIfInBounds_toArray, List.set_cons_zero, List.set_cons_succ]
              refine wpAnyH_ready (rs := [38]) (by kernel_rfl) (by simp) ?_
              refine AllReadyH.cons (o := { dst := some 4, op := Op.alloc 147, type := 0, pos := "ref.go:86", after := #[], guard := none }) rfl (fun K' hK => ?_) AllReadyH.nil
              go_simp
              have k38 : Kp [] wb (wb.alloc (.cells #[.int .u32 0, .int .i64 0, .int .i64 0, .string ⟨#[]⟩, .slice none 0 0] 147)) := (Kp.refl [] wb).alloc _
              have hrow : (wb.alloc (.cells #[.int .u32 0, .int .i64 0, .int .i64 0, .string ⟨#[]⟩, .slice none 0 0] 147)).heap[wb.heap.size]? = some (.cells zpart 147 (0, 0)) := heap_alloc_new wb _
              have hle38 : w1.heap.size ≤ wb.heap.size := hHeld.size
              replace ho := ho.kp0 k38
              (try go_simp)
              refine hK.out _ _ (hHeld.trans0 k38) (fun hHeld => ?_)
              clear hK K'
              try simp only [Act.put, List.setIfInBounds_toArray, List.set_cons_zero, List.set_cons_succ]
              clear k38
              generalize wb.alloc (.cells #[.int .u32 0, .int .i64 0, .int .i64 0, .string ⟨#[]⟩, .slice none 0 0] 147) = wc at *
              generalize wb.heap.size = g38 at *
              refine wpAnyH_ready (rs := [39]) (by kernel_rfl) (by simp) ?_
              refine AllReadyH.cons (o := { dst := none, op := Op.store 147 (Operand.tmp 4) (Operand.tmp 57), type := 0, pos := "ref.go:86", after := #[{ on := 38, ground := Ground.data }, { on := 37, ground := Ground.data }, { on := 36, ground := Ground.chain }, { on := 0, ground := Ground.phase }, { on := 1, ground := Ground.phase }, { on := 2, ground := Ground.phase }, { on := 3, ground := Ground.phase }, { on := 4, ground := Ground.phase }, { on := 5, ground := Ground.phase }, { on := 6, ground := Ground.phase }, { on := 7, ground := Ground.phase }, { on := 8, ground := Ground.phase }, { on := 9, ground := Ground.phase }, { on := 10, ground := Ground.phase }, { on := 11, ground := Ground.phase }, { on := 12, ground := Ground.phase }, { on := 13, ground := Ground.phase }, { on := 14, ground := Ground.phase }, { on := 15, ground := Ground.phase }, { on := 16, ground := Ground.phase }, { on := 17, ground := Ground.phase }, { on := 18, ground := Ground.phase }, { on := 19, ground := Ground.phase }, { on := 20, ground := Ground.phase }, { on := 21, ground := Ground.phase }, { on := 22, ground := Ground.phase }, { on := 23, ground := Ground.phase }, { on := 24, ground := Ground.phase }, { on := 25, ground := Ground.phase }, { on := 26, ground := Ground.phase }, { on := 27, ground := Ground.phase }, { on := 28, ground := Ground.phase }, { on := 29, ground := Ground.phase }, { on := 30, ground := Ground.phase }, { on := 31, ground := Ground.phase }, { on := 32, ground := Ground.phase }, { on := 33, ground := Ground.phase }, { on := 34, ground := Ground.phase }, { on := 35, ground := Ground.phase }, { on := 36, ground := Ground.phase }, { on := 37, ground := Ground.phase }, { on := 38, ground := Ground.phase }], guard := none }) rfl (fun K' hK => ?_) AllReadyH.nil
              refine wp_store_row 147 (.tmp 4) (.tmp 57) (by rfl) g38 #[.int .u32 (word x1 x2 x3 x4), .int .i64 x5, .int .i64 x6, .string (strOf sm), .slice a15 ct.length c15] (by rfl) (by rfl) 147 zpart hrow (by kernel_rfl) rfl (by simp [Value.oneCell']) ?_
              have k39 := kp_setRow wc g38 #[.int .u32 (word x1 x2 x3 x4), .int .i64 x5, .int .i64 x6, .string (strOf sm), .slice a15 ct.length c15]
              have k39w : Kp [] w1 (wc.setRow g38 #[.int .u32 (word x1 x2 x3 x4), .int .i64 x5, .int .i64 x6, .string (strOf sm), .slice a15 ct.length c15]) := hHeld.trans k39 (fun m hm => by rw [List.mem_singleton] at hm; subst hm; exact .inr hle38)
              have hfin : (wc.setRow g38 #[.int .u32 (word x1 x2 x3 x4), .int .i64 x5, .int .i64 x6, .string (strOf sm), .slice a15 ct.length c15]).heap[g38]? = some (.cells #[.int .u32 (word x1 x2 x3 x4), .int .i64 x5, .int .i64 x6, .string (strOf sm), .slice a15 ct.length c15] 147 (0, 0)) := setRow_heap _ _ _ _ _ _ hrow
              replace ho := ho.kp k39 (fun b hb hm => by rw [List.mem_singleton] at hm; subst hm; exact ho.not_at hrow (by decide) hb)
              have hwlt : w.heap.size < w1.heap.size := (Array.getElem?_eq_some_iff.1 HP1.out).1
              (try go_simp)
              refine hK.out _ _ (k39w) (fun hHeld => ?_)
              clear hK K'
              try simp only [Act.put, List.setIfInBounds_toArray, List.set_cons_zero, List.set_cons_succ]
              refine wpAnyH_done (by kernel_rfl) ?_ _
              refine NoPanic.normal ?_
              have HFIN := Lib.hid (And.intro k39w (And.intro hfin (And.intro ho (show g38 ≠ w.heap.size by omega))))
              clear k39w hfin ho hrow k39 hHeld
              go_wp2_with fail
              go_meet
              exact ⟨g38, a15, c15, rfl, Lib.hid ⟨HK1.out.trans0 HFIN.out.1, HFIN.out.1.heap HP1.out (by simp), HFIN.out.2.2.2, HFIN.out.2.1, HFIN.out.2.2.1⟩⟩
            · as_aux_lemma =>
              go_simp
              have k38 : Kp [] wa (wa.alloc (.cells #[.int .u32 0, .int .i64 0, .int .i64 0, .string ⟨#[]⟩, .slice none 0 0] 147)) := (Kp.refl [] wa).alloc _
              have hrow : (wa.alloc (.cells #[.int .u32 0, .int .i64 0, .int .i64 0, .string ⟨#[]⟩, .slice none 0 0] 147)).heap[wa.heap.size]? = some (.cells zpart 147 (0, 0)) := heap_alloc_new wa _
              have hle38 : w1.heap.size ≤ wa.heap.size := hHeld.size
              have hne : wa.heap.size ≠ g33 := Nat.ne_of_gt (ho.lt rfl).2
              replace ho := ho.kp0 k38
              (try go_simp)
              refine hK.out _ _ (hHeld.trans0 k38) (fun hHeld => ?_)
              clear hK K'
              try simp only [Act.put, List.setIfInBounds_toArray, List.set_cons_zero, List.set_cons_succ]
              clear k38
              generalize wa.alloc (.cells #[.int .u32 0, .int .i64 0, .int .i64 0, .string ⟨#[]⟩, .slice none 0 0] 147) = wb at *
              generalize wa.heap.size = g38 at *
              refine wpAnyH_ready (rs := [36]) (by kernel_rfl) (by simp) ?_
              refine AllReadyH.cons (o := { dst := some 56, op := Op.call { callee := Callee.builtin Builtin.append, args := #[Operand.tmp 53, Operand.tmp 55], argTypes := #[27, 27] }, type := 27, pos := "ref.go:86", after := #[{ on := 33, ground := Ground.data }, { on := 35, ground := Ground.data }], guard := none }) rfl (fun K' hK => ?_) AllReadyH.nil
              refine op_append (v := .slice (some ⟨g33, 0, none⟩) 0 0) el_u8 _ _ rfl rfl rfl ho (HR8.out.kp0 (HK1.out.trans0 hHeld)) (bv_oneCell _) (by show 0 + (bv ct).length ≤ _; rw [bv_length, HCL.out]; omega) (by show (0 + (bv ct).length) * 1 ≤ _; rw [bv_length, HCL.out]; omega) (Nat.le_of_lt (ho.lt rfl).2) ?_
              intro v15 wc ho15 hg15
              have k36 : Kp [] w1 wc := hHeld.grown hg15 (fun k hk => by cases hk; exact .inr hle33)
              replace hrow := (Kp.of_grown (L := [g33]) hg15 (fun k hk => by cases hk; exact .inl (by simp))).heap hrow (by simpa using hne)
              rw [show bv [] ++ bv ct = bv ct from rfl] at ho15
              obtain ⟨a15, c15, hv15⟩ := ho15.rd.form
              rw [bv_length] at hv15
              subst hv15
              replace ho := ho15.base (B' := w.heap.size) (Nat.le_trans HK1.out.size hle33)
              clear ho15 hg15 hle33
              (try go_simp)
              refine hK.out _ _ (k36) (fun hHeld => ?_)
              clear hK K'
              try simp only [Act.put, List.setIfInBounds_toArray, List.set_cons_zero, List.set_cons_succ]
              clear k36
              refine wpAnyH_take (i := 37) (oi := { dst := some 57, op := Op.build 147 #[(0, Operand.tmp 41), (1, Operand.tmp 45), (2, Operand.tmp 49), (3, Operand.tmp 52), (4, Operand.tmp 56)], type := 147, pos := "ref.go:86", after := #[{ on := 21, ground := Ground.data }, { on := 25, ground := Ground.data }, { on := 29, ground := Ground.data }, { on := 32, ground := Ground.data }, { on := 36, ground := Ground.data }], guard := none }) (v := .agg #[.int .u32 (word x1 x2 x3 x4), .int .i64 x5, .int .i64 x6, .string (strOf sm), .slice a15 ct.length c15]) rfl (by kernel_rfl) (by kernel_rfl) (by kernel_rfl) (fun _ _ _ h => h) (Or.inl ⟨by rfl, by intro w hSw; (try dsimp only at hSw); go_simp; try rfl⟩) (by assumption) ?_
              try simp only [Act.put, List.setIfInBounds_toArray, List.set_cons_zero, List.set_cons_succ]
              refine wpAnyH_ready (rs := [39]) (by kernel_rfl) (by simp) ?_
              refine AllReadyH.cons (o := { dst := none, op := Op.store 147 (Operand.tmp 4) (Operand.tmp 57), type := 0, pos := "ref.go:86", after := #[{ on := 38, ground := Ground.data }, { on := 37, ground := Ground.data }, { on := 36, ground := Ground.chain }, { on := 0, ground := Ground.phase }, { on := 1, ground := Ground.phase }, { on := 2, ground := Ground.phase }, { on := 3, ground := Ground.phase }, { on := 4, ground := Ground.phase }, { on := 5, ground := Ground.phase }, { on := 6, ground := Ground.phase }, { on := 7, ground := Ground.phase }, { on := 8, ground := Ground.phase }, { on := 9, ground := Ground.phase }, { on := 10, ground := Ground.phase }, { on := 11, ground := Ground.phase }, { on := 12, ground := Ground.phase }, { on := 13, ground := Ground.phase }, { on := 14, ground := Ground.phase }, { on := 15, ground := Ground.phase }, { on := 16, ground := Ground.phase }, { on := 17, ground := Ground.phase }, { on := 18, ground := Ground.phase }, { on := 19, ground := Ground.phase }, { on := 20, ground := Ground.phase }, { on := 21, ground := Ground.phase }, { on := 22, ground := Ground.phase }, { on := 23, ground := Ground.phase }, { on := 24, ground := Ground.phase }, { on := 25, ground := Ground.phase }, { on := 26, ground := Ground.phase }, { on := 27, ground := Ground.phase }, { on := 28, ground := Ground.phase }, { on := 29, ground := Ground.phase }, { on := 30, ground := Ground.phase }, { on := 31, ground := Ground.phase }, { on := 32, ground := Ground.phase }, { on := 33, ground := Ground.phase }, { on := 34, ground := Ground.phase }, { on := 35, ground := Ground.phase }, { on := 36, ground := Ground.phase }, { on := 37, ground := Ground.phase }, { on := 38, ground := Ground.phase }], guard := none }) rfl (fun K' hK => ?_) AllReadyH.nil
              refine wp_store_row 147 (.tmp 4) (.tmp 57) (by rfl) g38 #[.int .u32 (word x1 x2 x3 x4), .int .i64 x5, .int .i64 x6, .string (strOf sm), .slice a15 ct.length c15] (by rfl) (by rfl) 147 zpart hrow (by kernel_rfl) rfl (by simp [Value.oneCell']) ?_
              have k39 := kp_setRow wc g38 #[.int .u32 (word x1 x2 x3 x4), .int .i64 x5, .int .i64 x6, .string (strOf sm), .slice a15 ct.length c15]
              have k39w : Kp [] w1 (wc.setRow g38 #[.int .u32 (word x1 x2 x3 x4), .int .i64 x5, .int .i64 x6, .string (strOf sm), .slice a15 ct.length c15]) := hHeld.trans k39 (fun m hm => by rw [List.mem_singleton] at hm; subst hm; exact .inr hle38)
              have hfin : (wc.setRow g38 #[.int .u32 (word x1 x2 x3 x4), .int .i64 x5, .int .i64 x6, .string (strOf sm), .slice a15 ct.length c15]).heap[g38]? = some (.cells #[.int .u32 (word x1 x2 x3 x4), .int .i64 x5, .int .i64 x6, .string (strOf sm), .slice a15 ct.length c15] 147 (0, 0)) := setRow_heap _ _ _ _ _ _ hrow
              replace ho := ho.kp k39 (fun b hb hm => by rw [List.mem_singleton] at hm; subst hm; exact ho.not_at hrow (by decide) hb)
              have hwlt : w.heap.size < w1.heap.size := (Array.getElem?_eq_some_iff.1 HP1.out).1
              (try go_simp)
              refine hK.out _ _ (k39w) (fun hHeld => ?_)
              clear hK K'
              try simp only [Act.put, List.setIfInBounds_toArray, List.set_cons_zero, List.set_cons_succ]
              refine wpAnyH_done (by kernel_rfl) ?_ _
              refine NoPanic.normal ?_
              have HFIN := Lib.hid (And.intro k39w (And.intro hfin (And.intro ho (show g38 ≠ w.heap.size by omega))))
              clear k39w hfin ho hrow k39 hHeld
              go_wp2_with fail
              go_meet
              exact ⟨g38, a15, c15, rfl, Lib.hid ⟨HK1.out.trans0 HFIN.out.1, HFIN.out.1.heap HP1.out (by simp), HFIN.out.2.2.2, HFIN.out.2.1, HFIN.out.2.2.1⟩⟩
          · as_aux_lemma =>
            go_simp
            have k38 : Kp [] wd (wd.alloc (.cells #[.int .u32 0, .int .i64 0, .int .i64 0, .string ⟨#[]⟩, .slice none 0 0] 147)) := (Kp.refl [] wd).alloc _
            have hrow : (wd.alloc (.cells #[.int .u32 0, .int .i64 0, .int .i64 0, .string ⟨#[]⟩, .slice none 0 0] 147)).heap[wd.heap.size]? = some (.cells zpart 147 (0, 0)) := heap_alloc_new wd _
            have hle38 : w1.heap.size ≤ wd.heap.size := hHeld.size
            (try go_simp)
            refine hK.out _ _ (hHeld.trans0 k38) (fun hHeld => ?_)
            clear hK K'
            try simp only [Act.put, List.setIfInBounds_toArray, List.set_cons_zero, List.set_cons_succ]
            clear k38
            generalize wd.alloc (.cells #[.int .u32 0, .int .i64 0, .int .i64 0, .string ⟨#[]⟩, .slice none 0 0] 147) = wa at *
            generalize wd.heap.size = g38 at *
            refine wpAnyH_ready (rs := [33]) (by kernel_rfl) (by simp) ?_
            refine AllReadyH.cons (o := { dst := some 53, op := Op.buildSlice 27 0 #[], type := 27, pos := "ref.go:86", after := #[], guard := none }) rfl (fun K' hK => ?_) AllReadyH.nil
            go_simp
            have k33 : Kp [] wa (wa.alloc (.cells #[] 5)) := (Kp.refl [] wa).alloc _
            have ho : Own (wa.alloc (.cells #[] 5)) wa.heap.size 5 (.slice (some ⟨wa.heap.size, 0, none⟩) 0 0) (bv []) := Own.lit wa 5 #[] (Nat.le_refl _) (by simp)
            have hle33 : w1.heap.size ≤ wa.heap.size := hHeld.size
            have hne : g38 ≠ wa.heap.size := Nat.ne_of_lt (Array.getElem?_eq_some_iff.1 hrow).1
            replace hrow := k33.heap hrow (by simp)
            (try go_simp)
            refine hK.out _ _ (hHeld.trans0 k33) (fun hHeld => ?_)
            clear hK K'
            try simp only [Act.put, List.setIfInBounds_toArray, List.set_cons_zero, List.set_cons_succ]
            clear k33
            generalize wa.alloc (.cells #[] 5) = wb at *
            generalize wa.heap.size = g33 at *
            refine wpAnyH_ready (rs := [36]) (by kernel_rfl) (by simp) ?_
            refine AllReadyH.cons (o := { dst := some 56, op := Op.call { callee := Callee.builtin Builtin.append, args := #[Operand.tmp 53, Operand.tmp 55], argTypes := #[27, 27] }, type := 27, pos := "ref.go:86", after := #[{ on := 33, ground := Ground.data }, { on := 35, ground := Ground.data }], guard := none }) rfl (fun K' hK => ?_) AllReadyH.nil
            refine op_append (v := .slice (some ⟨g33, 0, none⟩) 0 0) el_u8 _ _ rfl rfl rfl ho (HR8.out.kp0 (HK1.out.trans0 hHeld)) (bv_oneCell _) (by show 0 + (bv ct).length ≤ _; rw [bv_length, HCL.out]; omega) (by show (0 + (bv ct).length) * 1 ≤ _; rw [bv_length, HCL.out]; omega) (Nat.le_of_lt (ho.lt rfl).2) ?_
            intro v15 wc ho15 hg15
            have k36 : Kp [] w1 wc := hHeld.grown hg15 (fun k hk => by cases hk; exact .inr hle33)
            replace hrow := (Kp.of_grown (L := [g33]) hg15 (fun k hk => by cases hk; exact .inl (by simp))).heap hrow (by simpa using hne)
            rw [show bv [] ++ bv ct = bv ct from rfl] at ho15
            obtain ⟨a15, c15, hv15⟩ := ho15.rd.form
            rw [bv_length] at hv15
            subst hv15
            replace ho := ho15.base (B' := w.heap.size) (Nat.le_trans HK1.out.size hle33)
            clear ho15 hg15 hle33
            (try go_simp)
            refine hK.out _ _ (k36) (fun hHeld => ?_)
            clear hK K'
            try simp only [Act.put, List.setIfInBounds_toArray, List.set_cons_zero, List.set_cons_succ]
            clear k36
            refine wpAnyH_take (i := 37) (oi := { dst := some 57, op := Op.build 147 #[(0, Operand.tmp 41), (1, Operand.tmp 45), (2, Operand.tmp 49), (3, Operand.tmp 52), (4, Operand.tmp 56)], type := 147, pos := "ref.go:86", after := #[{ on := 21, ground := Ground.data }, { on := 25, ground := Ground.data }, { on := 29, ground := Ground.data }, { on := 32, ground := Ground.data }, { on := 36, ground := Ground.data }], guard := none }) (v := .agg #[.int .u32 (word x1 x2 x3 x4), .int .i64 x5, .int .i64 x6, .string (strOf sm), .slice a15 ct.length c15]) rfl (by kernel_rfl) (by kernel_rfl) (by kernel_rfl) (fun _ _ _ h => h) (Or.inl ⟨by rfl, by intro w hSw; (try dsimp only at hSw); go_simp; try rfl⟩) (by assumption) ?_
            try simp only [Act.put, List.setIfInBounds_toArray, List.set_cons_zero, List.set_cons_succ]
            refine wpAnyH_ready (rs := [39]) (by kernel_rfl) (by simp) ?_
            refine AllReadyH.cons (o := { dst := none, op := Op.store 147 (Operand.tmp 4) (Operand.tmp 57), type := 0, pos := "ref.go:86", after := #[{ on := 38, ground := Ground.data }, { on := 37, ground := Ground.data }, { on := 36, ground := Ground.chain }, { on := 0, ground := Ground.phase }, { on := 1, ground := Ground.phase }, { on := 2, ground := Ground.phase }, { on := 3, ground := Ground.phase }, { on := 4, ground := Ground.phase }, { on := 5, ground := Ground.phase }, { on := 6, ground := Ground.phase }, { on := 7, ground := Ground.phase }, { on := 8, ground := Ground.phase }, { on := 9, ground := Ground.phase }, { on := 10, ground := Ground.phase }, { on := 11, ground := Ground.phase }, { on := 12, ground := Ground.phase }, { on := 13, ground := Ground.phase }, { on := 14, ground := Ground.phase }, { on := 15, ground := Ground.phase }, { on := 16, ground := Ground.phase }, { on := 17, ground := Ground.phase }, { on := 18, ground := Ground.phase }, { on := 19, ground := Ground.phase }, { on := 20, ground := Ground.phase }, { on := 21, ground := Ground.phase }, { on := 22, ground := Ground.phase }, { on := 23, ground := Ground.phase }, { on := 24, ground := Ground.phase }, { on := 25, ground := Ground.phase }, { on := 26, ground := Ground.phase }, { on := 27, ground := Ground.phase }, { on := 28, ground := Ground.phase }, { on := 29, ground := Ground.phase }, { on := 30, ground := Ground.phase }, { on := 31, ground := Ground.phase }, { on := 32, ground := Ground.phase }, { on := 33, ground := Ground.phase }, { on := 34, ground := Ground.phase }, { on := 35, ground := Ground.phase }, { on := 36, ground := Ground.phase }, { on := 37, ground := Ground.phase }, { on := 38, ground := Ground.phase }], guard := none }) rfl (fun K' hK => ?_) AllReadyH.nil
            refine wp_store_row 147 (.tmp 4) (.tmp 57) (by rfl) g38 #[.int .u32 (word x1 x2 x3 x4), .int .i64 x5, .int .i64 x6, .string (strOf sm), .slice a15 ct.length c15] (by rfl) (by rfl) 147 zpart hrow (by kernel_rfl) rfl (by simp [Value.oneCell']) ?_
            have k39 := kp_setRow wc g38 #[.int .u32 (word x1 x2 x3 x4), .int .i64 x5, .int .i64 x6, .string (strOf sm), .slice a15 ct.length c15]
            have k39w : Kp [] w1 (wc.setRow g38 #[.int .u32 (word x1 x2 x3 x4), .int .i64 x5, .int .i64 x6, .string (strOf sm), .slice a15 ct.length c15]) := hHeld.trans k39 (fun m hm => by rw [List.mem_singleton] at hm; subst hm; exact .inr hle38)
            have hfin : (wc.setRow g38 #[.int .u32 (word x1 x2 x3 x4), .int .i64 x5, .int .i64 x6, .string (strOf sm), .slice a15 ct.length c15]).heap[g38]? = some (.cells #[.int .u32 (word x1 x2 x3 x4), .int .i64 x5, .int .i64 x6, .string (strOf sm), .slice a15 ct.length c15] 147 (0, 0)) := setRow_heap _ _ _ _ _ _ hrow
            replace ho := ho.kp k39 (fun b hb hm => by rw [List.mem_singleton] at hm; subst hm; exact ho.not_at hrow (by decide) hb)
            have hwlt : w.heap.size < w1.heap.size := (Array.getElem?_eq_some_iff.1 HP1.out).1
            (try go_simp)
            refine hK.out _ _ (k39w) (fun hHeld => ?_)
            clear hK K'
            try simp only [Act.put, List.setIfInBounds_toArray, List.set_cons_zero, List.set_cons_succ]
            refine wpAnyH_done (by kernel_rfl) ?_ _
            refine NoPanic.normal ?_
            have HFIN := Lib.hid (And.intro k39w (And.intro hfin (And.intro ho (show g38 ≠ w.heap.size by omega))))
            clear k39w hfin ho hrow k39 hHeld
            go_wp2_with fail
            go_meet
            exact ⟨g38, a15, c15, rfl, Lib.hid ⟨HK1.out.trans0 HFIN.out.1, HFIN.out.1.heap HP1.out (by simp), HFIN.out.2.2.2, HFIN.out.2.1, HFIN.out.2.2.1⟩⟩
        case rest =>
          obtain ⟨g, a, c, rfl, HC⟩ := hcut
          obtain ⟨m, hm⟩ : ∃ m, ct.length = m := ⟨_, rfl⟩
          have HMC := Lib.hid hm
          rw [hm] at HC
          have hmn : m = n - 15 := by rw [← hm]; exact HCL.out
          have hp1 : wc.cell? ⟨g, 1, none⟩ = some (.int .i64 x5) := by rw [cell_of_row _ _ 1 _ _ _ HC.out.2.2.2.1]; rfl
          have hp2 : wc.cell? ⟨g, 2, none⟩ = some (.int .i64 x6) := by rw [cell_of_row _ _ 2 _ _ _ HC.out.2.2.2.1]; rfl
          have hp4 : wc.cell? ⟨g, 4, none⟩ = some (.slice a m c) := by rw [cell_of_row _ _ 4 _ _ _ HC.out.2.2.2.1]; rfl
          clear hm
          have HMN := Lib.hid hmn
          clear hmn
          by_cases hbad : x5 < 1 ∨ 64 < x5 ∨ x5 ≤ x6
          · have HX : Hid (readL b = none) := Lib.hid (by rw [HRL.out, if_pos hbad])
            by_cases q1 : x5 < 1
            · clear hbad
              as_aux_lemma =>
              go_wp2_with (first | ((with_reducible refine wpList_store_row ?za1 147 (.tmp 2) (.tmp 73) ?za2 w.heap.size zpart ?za3 ?za4 147 zpart ?za5 ?za6 ?za7 ?za8 ?za9); (case za1 => rfl); (case za2 => rfl); (case za3 => rfl); (case za4 => rfl); (case za5 => exact HC.out.2.1); (case za6 => kernel_rfl); (case za7 => rfl); (case za8 => simp [zpart, Value.oneCell'])) | fail)
              refine zpart_end rfl rfl rfl (setRow_heap _ _ _ _ _ _ HC.out.2.1) (HC.out.1.trans (kp_setRow _ _ _) (fun m hm => by rw [List.mem_singleton] at hm; subst hm; exact .inr (Nat.le_refl _))) HX.out
            · by_cases q2 : 64 < x5
              · clear hbad
                as_aux_lemma =>
                go_wp2_with (first | ((with_reducible refine wpList_store_row ?zb1 147 (.tmp 2) (.tmp 73) ?zb2 w.heap.size zpart ?zb3 ?zb4 147 zpart ?zb5 ?zb6 ?zb7 ?zb8 ?zb9); (case zb1 => rfl); (case zb2 => rfl); (case zb3 => rfl); (case zb4 => rfl); (case zb5 => exact HC.out.2.1); (case zb6 => kernel_rfl); (case zb7 => rfl); (case zb8 => simp [zpart, Value.oneCell'])) | fail)
                refine zpart_end rfl rfl rfl (setRow_heap _ _ _ _ _ _ HC.out.2.1) (HC.out.1.trans (kp_setRow _ _ _) (fun m hm => by rw [List.mem_singleton] at hm; subst hm; exact .inr (Nat.le_refl _))) HX.out
              · have q3 : x5 ≤ x6 := by omega
                clear hbad
                as_aux_lemma =>
                go_wp2_with (first | ((with_reducible refine wpList_store_row ?zc1 147 (.tmp 2) (.tmp 73) ?zc2 w.heap.size zpart ?zc3 ?zc4 147 zpart ?zc5 ?zc6 ?zc7 ?zc8 ?zc9); (case zc1 => rfl); (case zc2 => rfl); (case zc3 => rfl); (case zc4 => rfl); (case zc5 => exact HC.out.2.1); (case zc6 => kernel_rfl); (case zc7 => rfl); (case zc8 => simp [zpart, Value.oneCell'])) | fail)
                refine zpart_end rfl rfl rfl (setRow_heap _ _ _ _ _ _ HC.out.2.1) (HC.out.1.trans (kp_setRow _ _ _) (fun m hm => by rw [List.mem_singleton] at hm; subst hm; exact .inr (Nat.le_refl _))) HX.out
          · have q1 : ¬ x5 < 1 := by omega
            have q2 : ¬ 64 < x5 := by omega
            have q3 : ¬ x5 ≤ x6 := by omega
            have HRL2 : Hid (readL b = if 497 < n - 15 ∨ (x6 < x5 - 1 ∧ n - 15 < 497) ∨ (n - 15 = 0 ∧ 1 < x5) then none else some ⟨word x1 x2 x3 x4, x5, x6, sm, ct⟩) := Lib.hid (by rw [HRL.out, if_neg hbad])
            have HQ : Hid (¬ x5 < 1 ∧ ¬ 64 < x5 ∧ ¬ x5 ≤ x6) := Lib.hid ⟨q1, q2, q3⟩
            clear hbad HRL
            go_upto_region 6 with fail
            by_cases r1 : x6 < x5 - 1
            · by_cases r2 : m = 497
              · have HOK : Hid (readL b = some ⟨word x1 x2 x3 x4, x5, x6, sm, ct⟩) := Lib.hid (by rw [HRL2.out, if_neg (by have := HMN.out; omega)])
                subst r2
                as_aux_lemma =>
                go_wp2_with (first
                  | ((with_reducible refine wpList_load_row ?oaa1 147 (.tmp 4) ?oaa2 g ?oaa3 147 #[.int .u32 (word x1 x2 x3 x4), .int .i64 x5, .int .i64 x6, .string (strOf sm), .slice a 497 c] (0, 0) ?oaa4 ?oaa5 ?oaa6 ?oaa7 ?oaa8 ?oaa9); (case oaa1 => rfl); (case oaa2 => rfl); (case oaa3 => rfl); (case oaa5 => exact HC.out.2.2.2.1); (case oaa6 => exact Tryd.underlying147); (case oaa7 => rfl); (case oaa8 => kernel_rfl))
                  | ((with_reducible refine wpList_store_row ?oa1 147 (.tmp 2) (.tmp 98) ?oa2 w.heap.size #[.int .u32 (word x1 x2 x3 x4), .int .i64 x5, .int .i64 x6, .string (strOf sm), .slice a 497 c] ?oa3 ?oa4 147 zpart ?oa5 ?oa6 ?oa7 ?oa8 ?oa9); (case oa1 => rfl); (case oa2 => rfl); (case oa3 => rfl); (case oa4 => rfl); (case oa5 => exact HC.out.2.1); (case oa6 => kernel_rfl); (case oa7 => rfl); (case oa8 => simp [Value.oneCell']))
                  | fail)
                have r1f := setRow_heap _ w.heap.size _ (#[.int .u32 (word x1 x2 x3 x4), .int .i64 x5, .int .i64 x6, .string (strOf sm), .slice a 497 c] : Array Value) _ _ HC.out.2.1
                have kf := kp_setRow wc w.heap.size (#[.int .u32 (word x1 x2 x3 x4), .int .i64 x5, .int .i64 x6, .string (strOf sm), .slice a 497 c] : Array Value)
                have hof := HC.out.2.2.2.2.kp kf (fun b hb hm => by rw [List.mem_singleton] at hm; subst hm; exact HC.out.2.2.2.2.not_at HC.out.2.1 (by decide) hb)
                refine bodyPost_ret (results_cell_row2 rfl _ _ w.heap.size 147 _ (0, 0) _ rfl r1f Tryd.underlying147 rfl (by kernel_rfl)) rfl ⟨HC.out.1.trans kf (fun m hm => by rw [List.mem_singleton] at hm; subst hm; exact .inr (Nat.le_refl _)), .inr ⟨_, a, c, HOK.out, ?_, ?_⟩⟩
                · first | rfl | (simp only [HMC.out]; rfl)
                · first | exact hof | (simp only [HMC.out]; exact hof)
              · have HX : Hid (readL b = none) := Lib.hid (by rw [HRL2.out, if_pos (by have := HMN.out; omega)])
                have r2b : ((m : Int) != 497) = true := by simp; omega
                have r2c : ((m : Int) == 497) = false := by rw [beq_eq_false_iff_ne]; omega
                as_aux_lemma =>
                go_wp2_with (first | ((with_reducible refine wpList_store_row ?zd1 147 (.tmp 2) (.tmp 97) ?zd2 w.heap.size zpart ?zd3 ?zd4 147 zpart ?zd5 ?zd6 ?zd7 ?zd8 ?zd9); (case zd1 => rfl); (case zd2 => rfl); (case zd3 => rfl); (case zd4 => rfl); (case zd5 => exact HC.out.2.1); (case zd6 => kernel_rfl); (case zd7 => rfl); (case zd8 => simp [zpart, Value.oneCell'])) | fail)
                refine zpart_end rfl rfl rfl (setRow_heap _ _ _ _ _ _ HC.out.2.1) (HC.out.1.trans (kp_setRow _ _ _) (fun m hm => by rw [List.mem_singleton] at hm; subst hm; exact .inr (Nat.le_refl _))) HX.out
            · by_cases r3 : 1 < x5
              · by_cases r4 : m = 0
                · have HX : Hid (readL b = none) := Lib.hid (by rw [HRL2.out, if_pos (by have := HMN.out; omega)])
                  subst r4
                  as_aux_lemma =>
                  go_wp2_with (first | ((with_reducible refine wpList_store_row ?ze1 147 (.tmp 2) (.tmp 97) ?ze2 w.heap.size zpart ?ze3 ?ze4 147 zpart ?ze5 ?ze6 ?ze7 ?ze8 ?ze9); (case ze1 => rfl); (case ze2 => rfl); (case ze3 => rfl); (case ze4 => rfl); (case ze5 => exact HC.out.2.1); (case ze6 => kernel_rfl); (case ze7 => rfl); (case ze8 => simp [zpart, Value.oneCell'])) | fail)
                  refine zpart_end rfl rfl rfl (setRow_heap _ _ _ _ _ _ HC.out.2.1) (HC.out.1.trans (kp_setRow _ _ _) (fun m hm => by rw [List.mem_singleton] at hm; subst hm; exact .inr (Nat.le_refl _))) HX.out
                · have HOK : Hid (readL b = some ⟨word x1 x2 x3 x4, x5, x6, sm, ct⟩) := Lib.hid (by rw [HRL2.out, if_neg (by have := HMN.out; omega)])
                  have r4b : ((m : Int) == 0) = false := by rw [beq_eq_false_iff_ne]; omega
                  as_aux_lemma =>
                  go_wp2_with (first
                    | ((with_reducible refine wpList_load_row ?oba1 147 (.tmp 4) ?oba2 g ?oba3 147 #[.int .u32 (word x1 x2 x3 x4), .int .i64 x5, .int .i64 x6, .string (strOf sm), .slice a m c] (0, 0) ?oba4 ?oba5 ?oba6 ?oba7 ?oba8 ?oba9); (case oba1 => rfl); (case oba2 => rfl); (case oba3 => rfl); (case oba5 => exact HC.out.2.2.2.1); (case oba6 => exact Tryd.underlying147); (case oba7 => rfl); (case oba8 => kernel_rfl))
                    | ((with_reducible refine wpList_store_row ?ob1 147 (.tmp 2) (.tmp 98) ?ob2 w.heap.size #[.int .u32 (word x1 x2 x3 x4), .int .i64 x5, .int .i64 x6, .string (strOf sm), .slice a m c] ?ob3 ?ob4 147 zpart ?ob5 ?ob6 ?ob7 ?ob8 ?ob9); (case ob1 => rfl); (case ob2 => rfl); (case ob3 => rfl); (case ob4 => rfl); (case ob5 => exact HC.out.2.1); (case ob6 => kernel_rfl); (case ob7 => rfl); (case ob8 => simp [Value.oneCell']))
                    | fail)
                  have r1f := setRow_heap _ w.heap.size _ (#[.int .u32 (word x1 x2 x3 x4), .int .i64 x5, .int .i64 x6, .string (strOf sm), .slice a m c] : Array Value) _ _ HC.out.2.1
                  have kf := kp_setRow wc w.heap.size (#[.int .u32 (word x1 x2 x3 x4), .int .i64 x5, .int .i64 x6, .string (strOf sm), .slice a m c] : Array Value)
                  have hof := HC.out.2.2.2.2.kp kf (fun b hb hm => by rw [List.mem_singleton] at hm; subst hm; exact HC.out.2.2.2.2.not_at HC.out.2.1 (by decide) hb)
                  refine bodyPost_ret (results_cell_row2 rfl _ _ w.heap.size 147 _ (0, 0) _ rfl r1f Tryd.underlying147 rfl (by kernel_rfl)) rfl ⟨HC.out.1.trans kf (fun m hm => by rw [List.mem_singleton] at hm; subst hm; exact .inr (Nat.le_refl _)), .inr ⟨_, a, c, HOK.out, ?_, ?_⟩⟩
                  · first | rfl | (simp only [HMC.out]; rfl)
                  · first | exact hof | (simp only [HMC.out]; exact hof)
              · have HOK : Hid (readL b = some ⟨word x1 x2 x3 x4, x5, x6, sm, ct⟩) := Lib.hid (by rw [HRL2.out, if_neg (by have := HMN.out; omega)])
                as_aux_lemma =>
                go_wp2_with (first
                  | ((with_reducible refine wpList_load_row ?oca1 147 (.tmp 4) ?oca2 g ?oca3 147 #[.int .u32 (word x1 x2 x3 x4), .int .i64 x5, .int .i64 x6, .string (strOf sm), .slice a m c] (0, 0) ?oca4 ?oca5 ?oca6 ?oca7 ?oca8 ?oca9); (case oca1 => rfl); (case oca2 => rfl); (case oca3 => rfl); (case oca5 => exact HC.out.2.2.2.1); (case oca6 => exact Tryd.underlying147); (case oca7 => rfl); (case oca8 => kernel_rfl))
                  | ((with_reducible refine wpList_store_row ?oc1 147 (.tmp 2) (.tmp 98) ?oc2 w.heap.size #[.int .u32 (word x1 x2 x3 x4), .int .i64 x5, .int .i64 x6, .string (strOf sm), .slice a m c] ?oc3 ?oc4 147 zpart ?oc5 ?oc6 ?oc7 ?oc8 ?oc9); (case oc1 => rfl); (case oc2 => rfl); (case oc3 => rfl); (case oc4 => rfl); (case oc5 => exact HC.out.2.1); (case oc6 => kernel_rfl); (case oc7 => rfl); (case oc8 => simp [Value.oneCell']))
                  | fail)
                have r1f := setRow_heap _ w.heap.size _ (#[.int .u32 (word x1 x2 x3 x4), .int .i64 x5, .int .i64 x6, .string (strOf sm), .slice a m c] : Array Value) _ _ HC.out.2.1
                have kf := kp_setRow wc w.heap.size (#[.int .u32 (word x1 x2 x3 x4), .int .i64 x5, .int .i64 x6, .string (strOf sm), .slice a m c] : Array Value)
                have hof := HC.out.2.2.2.2.kp kf (fun b hb hm => by rw [List.mem_singleton] at hm; subst hm; exact HC.out.2.2.2.2.not_at HC.out.2.1 (by decide) hb)
                refine bodyPost_ret (results_cell_row2 rfl _ _ w.heap.size 147 _ (0, 0) _ rfl r1f Tryd.underlying147 rfl (by kernel_rfl)) rfl ⟨HC.out.1.trans kf (fun m hm => by rw [List.mem_singleton] at hm; subst hm; exact .inr (Nat.le_refl _)), .inr ⟨_, a, c, HOK.out, ?_, ?_⟩⟩
                · first | rfl | (simp only [HMC.out]; rfl)
                · first | exact hof | (simp only [HMC.out]; exact hof)
end Go.Proofs.YtkceaepbjdfccaaDoor
