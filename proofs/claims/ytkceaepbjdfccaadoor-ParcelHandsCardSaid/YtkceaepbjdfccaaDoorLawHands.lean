/-
'ParcelHands': the walk, over whatever tells of a text.
-/
import Derived.Test.YtkceaepbjdfccaaDoorLawH0
namespace Go.Proofs.YtkceaepbjdfccaaDoor
open Go.RowKit
theorem app999 (A : List UInt8) : bv A ++ [Value.int .u8 9, .int .u8 9, .int .u8 9] = bv (A ++ [9, 9, 9]) := by rw [bv_append]; rfl
theorem set_same {l : List (List UInt8)} {k : Nat} {x : List UInt8} (h : l[k]? = some x) : l.set k x = l := by
  obtain ⟨h1, h2⟩ := List.getElem?_eq_some_iff.1 h
  rw [← h2, List.set_getElem_self]
theorem LX.setX {w W W' : World} {F : Nat → Prop} {t : Nat} {most : Int} {T : List Ent} {L : List Nat} (h : LX w W F t most T [] []) (k : Kp L W W') (hL : ∀ b ∈ L, ¬ F b ∧ w.heap.size ≤ b) : LX w W' F t most T [] [] :=
  ⟨h.k.trans k (fun b hb => .inr (hL b hb).2), h.tr.kp k (fun b hb => (hL b hb).1), fun p hp => absurd hp (by simp), fun r hr => absurd hr (by simp), h.fw⟩
theorem Cut.baseN {w : World} {B B' : Nat} {v : Value} {l : List UInt8} (h : Cut w B v l) (hB : B' ≤ B) : Cut w B' v l := by
  rcases h with ⟨a, b⟩ | ⟨g, cur, a, b, c, d, e⟩
  · exact .inl ⟨a, b⟩
  · exact .inr ⟨g, cur, a, Nat.le_trans hB b, c, d, e⟩
theorem Cut.kpN {w w' : World} {B : Nat} {v : Value} {l : List UInt8} (h : Cut w B v l) (k : Kp [] w w') : Cut w' B v l := by
  rcases h with ⟨a, b⟩ | ⟨g, cur, a, b, c, d, e⟩
  · exact .inl ⟨a, b⟩
  · exact .inr ⟨g, cur, a, b, k.heap c (by simp), d, e⟩
theorem app88 (A : List UInt8) : bv A ++ [Value.int .u8 8, .int .u8 8] = bv (A ++ [8, 8]) := by rw [bv_append]; rfl
set_option maxRecDepth 100000 in
set_option maxHeartbeats 4000000 in
theorem hands_any (mk : List UInt8 → List UInt8) (n mark id : Int) (w : World) (hn : -9223372036854775808 ≤ n ∧ n ≤ 9223372036854775807) (hmk : -9223372036854775808 ≤ mark ∧ mark ≤ 9223372036854775807) (hid : 0 ≤ id ∧ id < 4294967296)
    (ml : ∀ l, (mk l).length = 8)
    (mc : ∀ W v l, Kp [] w W → Rd W v (bv l) → l.length ≤ 562949953421312 → Calls Tryd.prog 43 #[v] W fun e w' => e = .returned (.agg (bv (mk l)).toArray) ∧ Kp [] W w')
    (sp : ∀ W v l, Kp [] w W → Rd W v (bv l) → l.length ≤ 31808 → Calls Tryd.prog 23 #[.int .u32 id, v] W fun e w' => ∃ v', e = .returned (.tuple #[v', .int .i64 0]) ∧ PtsD w' W.heap.size v' (partsM mk id l) ∧ Kp [] W w') :
    Calls Tryd.prog 8 #[.int .i64 n, .int .i64 mark, .int .u32 id] w fun e w' => e = .returned (.bool true) ∧ Kp [] w w' := by
  obtain ⟨N0, hN1, hN2⟩ := fold_mod n 900 hn (by decide)
  obtain ⟨N, hN⟩ : ∃ N : Nat, 498 + N0 = N := ⟨_, rfl⟩
  have hNb : 498 ≤ N ∧ N ≤ 1397 := by omega
  have HNW : Hid (wrap64 (498 + (N0 : Int)) = (N : Int)) := Lib.hid (by unfold wrap64; omega)
  have hla := fun W => long_any N 3 W (by omega) (by decide)
  have hal := longL_len N 3
  generalize longL N 3 = A at *
  have hA31 : A.length ≤ 31808 := by omega
  have HLA : Hid (∀ W, Calls Tryd.prog 22 #[.int .i64 N, .int .i64 3] W fun e w' => ∃ a c, e = .returned (.slice a N c) ∧ Own w' W.heap.size 5 (.slice a N c) (bv A) ∧ Kp [] W w') := Lib.hid (fun W => (hla W).mono fun e w' ⟨v, h1, h2, h3⟩ => by
    obtain ⟨a, c, rfl⟩ := h2.rd.form
    rw [bv_length, hal] at h1 h2
    exact ⟨a, c, h1, h2, h3⟩)
  obtain ⟨m, hm⟩ : ∃ m, cntP A.length = m := ⟨_, rfl⟩
  have hm2 : 2 ≤ m ∧ m ≤ 3 := by rw [← hm, hal]; unfold cntP; omega
  have hLl : (partsM mk id A).length = m := by rw [partsM_len, hm]
  have hLg : ∀ k, k < m → (partsM mk id A)[k]? = some (partM mk id A k) ∧ 15 ≤ (partM mk id A k).length ∧ (partM mk id A k).length ≤ 512 := fun k hk => by
    have h1 := partM_len ml id A k
    have h2 := contP_length A k
    exact ⟨partsM_get (by rw [hm]; exact hk), by omega, by omega⟩
  have hLn := partsM_ne mk id A
  have e0 := @th0 mk id A
  have e1 := fun k => @th_add mk ml id hid.1 hid.2 A hA31 k
  have e2 := fun k => @th_miss mk id A k
  have e3 := @th_take mk id A hA31
  rw [hm] at e3
  simp only [hm] at e1 e2
  have hsp : ∀ W v, Kp [] w W → Rd W v (bv A) → Calls Tryd.prog 23 #[.int .u32 id, v] W fun e w' => ∃ g c, e = .returned (.tuple #[.slice (some ⟨g, 0, none⟩) m c, .int .i64 0]) ∧ PtsD w' W.heap.size (.slice (some ⟨g, 0, none⟩) m c) (partsM mk id A) ∧ Kp [] W w' := fun W v k hv => (sp W v A k hv hA31).mono fun e w' ⟨v', h1, h2, h3⟩ => by
    obtain ⟨g, c, rfl, _⟩ := h2.pts.shapeN hLn
    rw [hLl] at h1 h2
    exact ⟨g, c, h1, h2, h3⟩
  generalize partsM mk id A = LA at *
  generalize partM mk id A = PA at *
  generalize TH mk id A = TT at *
  have E0 := Lib.hid e0
  have E1 := Lib.hid e1
  have E2 := Lib.hid e2
  have E3 := Lib.hid e3
  have HSP := Lib.hid hsp
  have HLL := Lib.hid hLl
  have HLG := Lib.hid hLg
  have HLN := Lib.hid hLn
  have HAL := Lib.hid hal
  have HN1 := Lib.hid hN1
  have HML := Lib.hid ml
  have HMC := Lib.hid mc
  have HID := Lib.hid hid
  have HMK := Lib.hid hmk
  have HNB := Lib.hid hNb
  have HM2 := Lib.hid hm2
  clear e0 e1 e2 e3 hsp hLl hLg hLn hal hN1 ml mc hid hmk sp hA31 hla hN hN2 hm
  obtain ⟨hn0, hn1⟩ := hn
  go_enter Tryd.func8, Tryd.ntmps8
  go_upto_region 2 with fail
  rw [HN1.out, HNW.out]
  generalize (if n < wrap64 (-wrap64 (n + 1)) then wrap64 (-wrap64 (n + 1)) else n) = fx at *
  generalize wrap64 (-wrap64 (n + 1)) = fy at *
  generalize wrap64 (n + 1) = fz at *
  clear HNW HN1 hn0 hn1
  have hn0 := hNb.1
  have hn1 := hNb.2
  clear hNb
  go_upto_region 3 with (first
    | (go_at_call 22; go_must (refine (HLA.out _).mono ?_; rintro e w1 ⟨aa, ca, rfl, ho1, hk1⟩; have HO1 := Lib.hid ho1; have HK1 := Lib.hid hk1; clear ho1 hk1))
    | (at_builtin; go_must (refine wpl_append el_u8 rfl (.tmp 46) (.tmp 47) rfl rfl rfl (HO1.out.kp0 ((Kp.refl [] w1).alloc _)) (rd_lit3 w1 5 _ _ _) (by simp [Value.oneCell']) (by rw [bv_length, HAL.out]; simp; omega) (by rw [bv_length, HAL.out]; simp; omega) (by have := HK1.out.size; simp; omega) ?_; intro v2 w2 ho2 hg2; rw [app999] at ho2; have HO2 := Lib.hid ho2; have HK2 : Hid (Kp [] w w2) := Lib.hid ((HK1.out.alloc _).grown hg2 (fun b hb => .inr (HO1.out.lt hb).1)); clear ho2 hg2))
    | fail)
  obtain ⟨ta, tc, hv2⟩ := HO2.out.rd.form
  have HTL : Hid ((bv (A ++ [9, 9, 9])).length = N + 3) := Lib.hid (by rw [bv_length, List.length_append, HAL.out]; rfl)
  rw [HTL.out] at hv2
  subst hv2
  obtain ⟨s2, n2, c2, hs2, hr2⟩ := run_subb_h el_byt HO2.out.rd (N : Int) (by omega) (by omega)
  rw [show (N : Int).toNat = N from rfl, List.take_append_of_le_length (by rw [HAL.out]; exact Nat.le_refl _), List.take_of_length_le (by rw [HAL.out]; exact Nat.le_refl _)] at hr2
  have HR2 := Lib.hid hr2
  clear hr2 HTL HO1 HK1
  go_upto_region 5 with (first
    | (go_at_call 23; (with_reducible refine (HSP.out _ _ (HK2.out.trans0 HK3.out) (HR2.out.kp0 HK3.out)).mono ?_); rintro e w4 ⟨gb, cb, rfl, hp4, hk4⟩; have HB4 := Lib.hid hp4.u; have HK4 := Lib.hid hk4; clear hk4 hp4)
    | (go_at_call 23; go_must (refine (HSP.out _ _ HK2.out HR2.out).mono ?_; rintro e w3 ⟨ga, ca, rfl, hp3, hk3⟩; have HA3 := Lib.hid hp3.pts; have HK3 := Lib.hid hk3; clear hk3 hp3))
    | fail)
  have HAQ : Hid (Pq w3 (fun _ => False) ga LA ∧ Rdd w3 (.slice (some ⟨ga, 0, none⟩) m ca) LA) := Lib.hid (by
    obtain ⟨g, c, he, h1, h2⟩ := HA3.out.shapeN HLN.out
    simp only [Value.slice.injEq, Option.some.injEq, Addr.mk.injEq, and_true] at he
    obtain ⟨rfl, _, rfl⟩ := he
    rw [HLL.out] at h2
    exact ⟨h1, h2⟩)
  have HTX : Hid (Rd w4 (.slice ta (N + 3) tc) (bv (A ++ [9, 9, 9]))) := Lib.hid (HO2.out.rd.kp0 (HK3.out.trans0 HK4.out))
  have HKW : Hid (Kp [] w w3) := Lib.hid (HK2.out.trans0 HK3.out)
  clear hs2 HR2 HO2 HK2 HK3 HA3
  have hct : ∀ W, Kp [] w4 W → (convert 27 9 (.slice ta (N + 3) tc)).run Tryd.prog W = .ok (.string (strOf (A ++ [9, 9, 9]))) W := fun W h => run_str Tryd.underlying27 Tryd.underlying5 Tryd.underlying9 (HTX.out.kp0 h)
  have hrc : ∀ W (l : List UInt8) a n c, Rd W (.slice a n c) (bv l) → (convert 27 9 (.slice a n c)).run Tryd.prog W = .ok (.string (strOf l)) W := fun W l a n c h => run_str Tryd.underlying27 Tryd.underlying5 Tryd.underlying9 h
  have hq : ((strOf (A ++ [9, 9, 9])).toList == (strOf A ++ ⟨#[9, 9, 9]⟩ : ByteArray).toList) = true := by rw [show (⟨#[9, 9, 9]⟩ : ByteArray) = strOf [9, 9, 9] from rfl, strOf_append]; simp
  have hzs : (strOf A).size ≤ 9223372036854775804 := by rw [strOf_size, HAL.out]; omega
  obtain ⟨zT, hzT⟩ : ∃ z, strOf (A ++ [9, 9, 9]) = z := ⟨_, rfl⟩
  obtain ⟨zA, hzA⟩ : ∃ z, strOf A = z := ⟨_, rfl⟩
  rw [hzT] at hct hq
  rw [hzA] at hq hzs
  have HZA := Lib.hid hzA
  clear hzT hzA
  have hm2I : ¬ (m : Int) < 2 := by have := HM2.out; omega
  have hm2D : decide ((m : Int) < 2) = false := decide_eq_false hm2I
  have hm2N : decide (m < 2) = false := decide_eq_false (by have := HM2.out; omega)
  refine wp_region_noPanic ?_
  refine wp_region_held_drew (S := fun W => Kp [] w4 W) (by kernel_rfl) ((Kp.refl [] w4).drew) (fun hHeld => ?_)
  refine wpAnyH_take (i := 0) (oi := { dst := some 65, op := Op.move (Operand.tmp 9), type := 28, pos := "law.go:204", after := #[], guard := none }) (v := .int .i64 0) rfl (by kernel_rfl) (by kernel_rfl) (by kernel_rfl) (fun _ _ _ h => h) (Or.inl ⟨by rfl, by intro w hSw; (try dsimp only at hSw); go_simp⟩) (by assumption) ?_
  try simp only [Act.put, List.setIfInBounds_toArray, List.set_cons_zero, List.set_cons_succ]
  refine wpAnyH_take (i := 1) (oi := { dst := some 66, op := Op.binOp BinOp.neq 28 (Operand.tmp 65) (Operand.const (Value.int IntKind.i64 0)) 28, type := 4, pos := "law.go:204", after := #[{ on := 0, ground := Ground.data }], guard := none }) (v := .bool false) rfl (by kernel_rfl) (by kernel_rfl) (by kernel_rfl) (fun _ _ _ h => h) (Or.inl ⟨by rfl, by intro w hSw; (try dsimp only at hSw); go_simp⟩) (by assumption) ?_
  try simp only [Act.put, List.setIfInBounds_toArray, List.set_cons_zero, List.set_cons_succ]
  refine wpAnyH_take (i := 2) (oi := { dst := some 67, op := Op.move (Operand.tmp 66), type := 4, pos := "law.go:204", after := #[{ on := 1, ground := Ground.data }], guard := none }) (v := .bool false) rfl (by kernel_rfl) (by kernel_rfl) (by kernel_rfl) (fun _ _ _ h => h) (Or.inl ⟨by rfl, by intro w hSw; (try dsimp only at hSw); go_simp⟩) (by assumption) ?_
  try simp only [Act.put, List.setIfInBounds_toArray, List.set_cons_zero, List.set_cons_succ]
  refine wpAnyH_take (i := 3) (oi := { dst := some 68, op := Op.move (Operand.tmp 11), type := 28, pos := "law.go:204", after := #[{ on := 2, ground := Ground.guard }], guard := some (2, false) }) (v := .int .i64 0) rfl (by kernel_rfl) (by kernel_rfl) (by kernel_rfl) (fun _ _ _ h => h) (Or.inl ⟨by rfl, by intro w hSw; (try dsimp only at hSw); go_simp⟩) (by assumption) ?_
  try simp only [Act.put, List.setIfInBounds_toArray, List.set_cons_zero, List.set_cons_succ]
  refine wpAnyH_take (i := 4) (oi := { dst := some 69, op := Op.binOp BinOp.neq 28 (Operand.tmp 68) (Operand.const (Value.int IntKind.i64 0)) 28, type := 4, pos := "law.go:204", after := #[{ on := 3, ground := Ground.data }, { on := 2, ground := Ground.guard }], guard := some (2, false) }) (v := .bool false) rfl (by kernel_rfl) (by kernel_rfl) (by kernel_rfl) (fun _ _ _ h => h) (Or.inl ⟨by rfl, by intro w hSw; (try dsimp only at hSw); go_simp⟩) (by assumption) ?_
  try simp only [Act.put, List.setIfInBounds_toArray, List.set_cons_zero, List.set_cons_succ]
  refine wpAnyH_take (i := 5) (oi := { dst := some 70, op := Op.pick (Operand.tmp 67) (Operand.const (Value.bool true)) (Operand.tmp 69), type := 4, pos := "law.go:204", after := #[{ on := 2, ground := Ground.data }, { on := 4, ground := Ground.data }], guard := none }) (v := .bool false) rfl (by kernel_rfl) (by kernel_rfl) (by kernel_rfl) (fun _ _ _ h => h) (Or.inl ⟨by rfl, by intro w hSw; (try dsimp only at hSw); go_simp⟩) (by assumption) ?_
  try simp only [Act.put, List.setIfInBounds_toArray, List.set_cons_zero, List.set_cons_succ]
  refine wpAnyH_take (i := 6) (oi := { dst := some 71, op := Op.move (Operand.tmp 70), type := 4, pos := "law.go:204", after := #[{ on := 5, ground := Ground.data }, { on := 2, ground := Ground.chain }], guard := none }) (v := .bool false) rfl (by kernel_rfl) (by kernel_rfl) (by kernel_rfl) (fun _ _ _ h => h) (Or.inl ⟨by rfl, by intro w hSw; (try dsimp only at hSw); go_simp⟩) (by assumption) ?_
  try simp only [Act.put, List.setIfInBounds_toArray, List.set_cons_zero, List.set_cons_succ]
  refine wpAnyH_take (i := 7) (oi := { dst := some 72, op := Op.move (Operand.tmp 8), type := 50, pos := "law.go:204", after := #[{ on := 6, ground := Ground.guard }], guard := some (6, false) }) (v := .slice (some ⟨ga, 0, none⟩) m ca) rfl (by kernel_rfl) (by kernel_rfl) (by kernel_rfl) (fun _ _ _ h => h) (Or.inl ⟨by rfl, by intro w hSw; (try dsimp only at hSw); go_simp⟩) (by assumption) ?_
  try simp only [Act.put, List.setIfInBounds_toArray, List.set_cons_zero, List.set_cons_succ]
  refine wpAnyH_take (i := 8) (oi := { dst := some 73, op := Op.call { callee := Callee.builtin Builtin.len, args := #[Operand.tmp 72], argTypes := #[50] }, type := 3, pos := "law.go:204", after := #[{ on := 7, ground := Ground.data }, { on := 6, ground := Ground.guard }], guard := some (6, false) }) (v := .int .i64 m) rfl (by kernel_rfl) (by kernel_rfl) (by kernel_rfl) (fun _ _ _ h => h) (Or.inl ⟨by rfl, by intro w hSw; (try dsimp only at hSw); go_simp⟩) (by assumption) ?_
  try simp only [Act.put, List.setIfInBounds_toArray, List.set_cons_zero, List.set_cons_succ]
  refine wpAnyH_take (i := 9) (oi := { dst := some 74, op := Op.binOp BinOp.lss 3 (Operand.tmp 73) (Operand.const (Value.int IntKind.i64 2)) 3, type := 4, pos := "law.go:204", after := #[{ on := 8, ground := Ground.data }, { on := 6, ground := Ground.guard }], guard := some (6, false) }) (v := .bool false) rfl (by kernel_rfl) (by kernel_rfl) (by kernel_rfl) (fun _ _ _ h => h) (Or.inl ⟨by rfl, by intro w hSw; (try dsimp only at hSw); go_simp⟩) (by assumption) ?_
  try simp only [Act.put, List.setIfInBounds_toArray, List.set_cons_zero, List.set_cons_succ]
  refine wpAnyH_take (i := 10) (oi := { dst := some 75, op := Op.pick (Operand.tmp 71) (Operand.const (Value.bool true)) (Operand.tmp 74), type := 4, pos := "law.go:204", after := #[{ on := 6, ground := Ground.data }, { on := 9, ground := Ground.data }], guard := none }) (v := .bool false) rfl (by kernel_rfl) (by kernel_rfl) (by kernel_rfl) (fun _ _ _ h => h) (Or.inl ⟨by rfl, by intro w hSw; (try dsimp only at hSw); go_simp⟩) (by assumption) ?_
  try simp only [Act.put, List.setIfInBounds_toArray, List.set_cons_zero, List.set_cons_succ]
  refine wpAnyH_take (i := 11) (oi := { dst := some 76, op := Op.move (Operand.tmp 75), type := 4, pos := "law.go:204", after := #[{ on := 10, ground := Ground.data }, { on := 6, ground := Ground.chain }], guard := none }) (v := .bool false) rfl (by kernel_rfl) (by kernel_rfl) (by kernel_rfl) (fun _ _ _ h => h) (Or.inl ⟨by rfl, by intro w hSw; (try dsimp only at hSw); go_simp⟩) (by assumption) ?_
  try simp only [Act.put, List.setIfInBounds_toArray, List.set_cons_zero, List.set_cons_succ]
  refine wpAnyH_take (i := 12) (oi := { dst := some 77, op := Op.move (Operand.tmp 7), type := 27, pos := "law.go:204", after := #[{ on := 11, ground := Ground.guard }], guard := some (11, false) }) (v := .slice ta (N + 3) tc) rfl (by kernel_rfl) (by kernel_rfl) (by kernel_rfl) (fun _ _ _ h => h) (Or.inl ⟨by rfl, by intro w hSw; (try dsimp only at hSw); go_simp⟩) (by assumption) ?_
  try simp only [Act.put, List.setIfInBounds_toArray, List.set_cons_zero, List.set_cons_succ]
  refine wpAnyH_take (i := 13) (oi := { dst := some 78, op := Op.convert 27 9 (Operand.tmp 77), type := 9, pos := "law.go:204", after := #[{ on := 12, ground := Ground.data }, { on := 11, ground := Ground.guard }], guard := some (11, false) }) (v := .string zT) rfl (by kernel_rfl) (by kernel_rfl) (by kernel_rfl) (fun _ _ _ h => h) (Or.inl ⟨by rfl, by intro w hSw; (try dsimp only at hSw); have hcx := hct _ hSw; go_simp⟩) (by assumption) ?_
  try simp only [Act.put, List.setIfInBounds_toArray, List.set_cons_zero, List.set_cons_succ]
  refine wpAnyH_take (i := 14) (oi := { dst := some 79, op := Op.move (Operand.tmp 0), type := 3, pos := "law.go:204", after := #[{ on := 11, ground := Ground.guard }], guard := some (11, false) }) (v := .int .i64 N) rfl (by kernel_rfl) (by kernel_rfl) (by kernel_rfl) (fun _ _ _ h => h) (Or.inl ⟨by rfl, by intro w hSw; (try dsimp only at hSw); go_simp⟩) (by assumption) ?_
  try simp only [Act.put, List.setIfInBounds_toArray, List.set_cons_zero, List.set_cons_succ]
  refine wpAnyH_ready (rs := [15]) (by kernel_rfl) (by simp) ?_
  refine AllReadyH.cons (o := { dst := some 80, op := Op.call { callee := Callee.value (Operand.func 22), args := #[Operand.tmp 79, Operand.const (Value.int IntKind.i64 3)], argTypes := #[3, 3] }, type := 27, pos := "law.go:204", after := #[{ on := 14, ground := Ground.data }, { on := 11, ground := Ground.chain }, { on := 11, ground := Ground.guard }], guard := some (11, false) }) rfl (fun K' hK => ?_) AllReadyH.nil
  go_simp
  refine (HLA.out _).mono ?_
  rintro e w5 ⟨a5, c5, rfl, hol5, hkl5⟩
  have hS5 : Kp [] w4 w5 := hHeld.trans0 hkl5
  have hcl5 := hrc _ _ _ _ _ hol5.rd
  rw [HZA.out] at hcl5
  clear hHeld hkl5 hol5
  (try go_simp)
  refine hK.out _ _ (hS5) (fun hHeld => ?_)
  clear hK K'
  try simp only [Act.put, List.setIfInBounds_toArray, List.set_cons_zero, List.set_cons_succ]
  refine wpAnyH_ready (rs := [16]) (by kernel_rfl) (by simp) ?_
  refine AllReadyH.cons (o := { dst := some 81, op := Op.convert 27 9 (Operand.tmp 80), type := 9, pos := "law.go:204", after := #[{ on := 15, ground := Ground.data }, { on := 11, ground := Ground.guard }], guard := some (11, false) }) rfl (fun K' hK => ?_) AllReadyH.nil
  go_simp
  (try go_simp)
  refine hK.out _ _ (hS5) (fun hHeld => ?_)
  clear hK K'
  try simp only [Act.put, List.setIfInBounds_toArray, List.set_cons_zero, List.set_cons_succ]
  refine wpAnyH_take (i := 17) (oi := { dst := some 82, op := Op.binOp BinOp.add 9 (Operand.tmp 81) (Operand.const (Value.string { data := #[9, 9, 9] })) 9, type := 9, pos := "law.go:204", after := #[{ on := 16, ground := Ground.data }, { on := 11, ground := Ground.guard }], guard := some (11, false) }) (v := .string (zA ++ ⟨#[9, 9, 9]⟩)) rfl (by kernel_rfl) (by kernel_rfl) (by kernel_rfl) (fun _ _ _ h => h) (Or.inl ⟨by rfl, by intro w hSw; (try dsimp only at hSw); go_simp⟩) (by assumption) ?_
  try simp only [Act.put, List.setIfInBounds_toArray, List.set_cons_zero, List.set_cons_succ]
  refine wpAnyH_take (i := 18) (oi := { dst := some 83, op := Op.binOp BinOp.neq 9 (Operand.tmp 78) (Operand.tmp 82) 9, type := 4, pos := "law.go:204", after := #[{ on := 13, ground := Ground.data }, { on := 17, ground := Ground.data }, { on := 11, ground := Ground.guard }], guard := some (11, false) }) (v := .bool false) rfl (by kernel_rfl) (by kernel_rfl) (by kernel_rfl) (fun _ _ _ h => h) (Or.inl ⟨by rfl, by intro w hSw; (try dsimp only at hSw); go_simp⟩) (by assumption) ?_
  try simp only [Act.put, List.setIfInBounds_toArray, List.set_cons_zero, List.set_cons_succ]
  refine wpAnyH_take (i := 19) (oi := { dst := some 84, op := Op.pick (Operand.tmp 76) (Operand.const (Value.bool true)) (Operand.tmp 83), type := 4, pos := "law.go:204", after := #[{ on := 11, ground := Ground.data }, { on := 18, ground := Ground.data }], guard := none }) (v := .bool false) rfl (by kernel_rfl) (by kernel_rfl) (by kernel_rfl) (fun _ _ _ h => h) (Or.inl ⟨by rfl, by intro w hSw; (try dsimp only at hSw); go_simp⟩) (by assumption) ?_
  try simp only [Act.put, List.setIfInBounds_toArray, List.set_cons_zero, List.set_cons_succ]
  refine wpAnyH_done (by kernel_rfl) ?_ _
  refine NoPanic.normal ?_
  have HK45 := Lib.hid hHeld
  clear hHeld hct hrc hq hzs hcl5 hm2I hm2D hm2N HZA HTX
  go_wp2_with fail
  have HK35 := Lib.hid (HK4.out.trans0 HK45.out)
  have HB5 : Hid (PtsU w5 w3.heap.size w4.heap.size (.slice (some ⟨gb, 0, none⟩) m cb) LA) := Lib.hid (HB4.out.kp HK45.out)
  have HUB : Hid (w4.heap.size ≤ w5.heap.size) := Lib.hid HK45.out.size
  generalize w4.heap.size = U at *
  clear HB4 HK4 HK45
  go_loopw [12, 13] (fun v i wr => ∃ k : Nat, k ≤ m ∧ i = .int .i64 k ∧ Hid (Kp [] w5 wr ∧ Pts wr w5.heap.size v (LA.take k))) (fun _ i _ => m - (intOf i).toNat)
  case atStart => exact ⟨0, Nat.zero_le _, rfl, Lib.hid ⟨Kp.refl [] w5, Pts.nil _ _⟩⟩
  case round =>
    obtain ⟨k, hk, rfl, HR⟩ := hrel
    by_cases hlt : k < m
    · obtain ⟨ap, cp, hcell, hrs⟩ := (HAQ.out.1.kp0 (HK35.out.trans0 HR.out.1)).at (HLG.out k hlt).1
      have HRD := Lib.hid hrs.r
      have HPL : Hid ((PA k).length ≤ 512) := Lib.hid (HLG.out k hlt).2.2
      have HTK : Hid (LA.take (k + 1) = LA.take k ++ [PA k]) := Lib.hid (by rw [List.take_add_one, (HLG.out k hlt).1]; rfl)
      have HTL : Hid ((LA.take k).length ≤ 3) := Lib.hid (by rw [List.length_take, HLL.out]; have := HM2.out; omega)
      have hcell2 : (wr.alloc (.cells #[] 5)).cell? ⟨ga, k, none⟩ = some (.slice ap (PA k).length cp) := ((Kp.refl [] wr).alloc _).cell_some hcell (by simp)
      clear hrs hcell
      generalize PA k = pk at *
      generalize hpl : pk.length = pl at *
      have HPE := Lib.hid hpl
      clear hpl
      go_wp2_with (first
        | (at_builtin; (refine wpl_append el_u8 rfl (.tmp 92) (.tmp 96) rfl rfl rfl (Own.lit wr 5 #[] (Nat.le_refl _) (by simp)) (HRD.out.kp0 ((Kp.refl [] wr).alloc _)) (bv_oneCell _) (by rw [bv_length, HPE.out]; simp; have := HPL.out; omega) (by rw [bv_length, HPE.out]; simp; have := HPL.out; omega) (by simp) ?_; intro v6 w6 ho6 hg6; obtain ⟨a6, c6, rfl⟩ := ho6.rd.form; have HO6 := Lib.hid ho6; have HK6 : Hid (Kp [] wr w6) := Lib.hid ((((Kp.refl [] wr).alloc _)).grown hg6 (fun b hb => by cases hb; exact .inr (Nat.le_refl _))); clear ho6 hg6))
        | (at_builtin; (refine wpl_app_pts rfl (.tmp 91) (.tmp 98) rfl rfl rfl (HR.out.2.kp HK6.out) (HO6.out.base HR.out.1.size) rfl (Nat.le_trans HR.out.1.size HK6.out.size) (by have := HTL.out; omega) ?_; intro v7 w7 hp7 hk7 hb7; have HR7 : Hid (Kp [] w5 w7 ∧ Pts w7 w5.heap.size v7 (LA.take (k + 1))) := Lib.hid ⟨(HR.out.1.trans0 HK6.out).trans hk7 (fun b hb => .inr (hb7 b (by simpa using hb))), by rw [HTK.out]; exact hp7⟩; clear hp7 hk7 hb7))
        | fail)
      go_roundw
      case rel => exact ⟨k + 1, by omega, by go_num, HR7⟩
      case measure => simp [intOf]; omega
    · have hkm : k = m := by omega
      subst hkm
      have HA6 := Lib.hid HR.out.2
      have HK36 := Lib.hid (HK35.out.trans0 HR.out.1)
      have HB6 := Lib.hid (HB5.out.kp HR.out.1)
      rw [List.take_of_length_le (by rw [HLL.out]; exact Nat.le_refl _)] at HA6
      obtain ⟨g0, c0, rfl, hq6, hr6⟩ := HA6.out.shapeN HLN.out
      rw [HLL.out] at HA6 hr6 ⊢
      clear hq6 hr6 HR hk hlt HB5
      generalize wr = w6 at *
      have HLK : Hid (∀ j, j < k → LA[j]? = some (PA j) ∧ 15 ≤ (PA j).length ∧ (PA j).length ≤ 512) := HLG
      generalize hm : k = m at *
      clear hm
      go_wp2_with fail
      go_loopw [14] (fun i wr => ∃ (k : Nat) (ls : List (List UInt8)), k ≤ m ∧ i = .int .i64 k ∧ Hid (Kp [] w3 wr ∧ Pts wr w5.heap.size (.slice (some ⟨g0, 0, none⟩) m c0) LA ∧ PtsU wr w3.heap.size U (.slice (some ⟨gb, 0, none⟩) m cb) ls ∧ ls.length = m ∧ (∀ j, j < k → ls[j]? = some (List.replicate (PA j).length (lo8 (mark + j)))) ∧ ∀ j, k ≤ j → ls[j]? = LA[j]?)) (fun i _ => m - (intOf i).toNat)
      case atStart => exact ⟨0, LA, Nat.zero_le _, rfl, Lib.hid ⟨HK36.out, HA6.out, HB6.out, HLL.out, fun j hj => absurd hj (Nat.not_lt_zero _), fun j _ => rfl⟩⟩
      case round =>
        obtain ⟨k, ls, hk, rfl, HR⟩ := hrel
        by_cases hlt : k < m
        · have hlk : ls[k]? = some (PA k) := by rw [HR.out.2.2.2.2.2 k (Nat.le_refl _)]; exact (HLG.out k hlt).1
          have HLK2 := Lib.hid hlk
          have HPL : Hid ((PA k).length ≤ 512) := Lib.hid (HLG.out k hlt).2.2
          have HV : Hid (Value.int .u8 (wrap64 (mark + (k : Int)) % 256) = bval (lo8 (mark + k))) := Lib.hid (by rw [← lo8_val]; congr 1; unfold wrap64; omega)
          clear hlk
          obtain ⟨pk, hpk⟩ : ∃ pk, PA k = pk := ⟨_, rfl⟩
          have HPK := Lib.hid hpk
          rw [hpk] at HLK2 HPL
          obtain ⟨pl, hpl⟩ : ∃ pl, pk.length = pl := ⟨_, rfl⟩
          have HPE := Lib.hid hpl
          have hpl5 : pl ≤ 512 := by rw [← hpl]; exact HPL.out
          clear hpl hpk HPL
          generalize hcb : lo8 (mark + (k : Int)) = cc at *
          have HCC := Lib.hid hcb
          clear hcb
          obtain ⟨wo, rfl⟩ : ∃ wo : World, wo = wr := ⟨_, rfl⟩
          go_wp2_with fail
          go_loopw [15] (fun i wr => ∃ q : Nat, q ≤ pl ∧ i = .int .i64 q ∧ Hid (Kp [] w3 wr ∧ Pts wr w5.heap.size (.slice (some ⟨g0, 0, none⟩) m c0) LA ∧ PtsU wr w3.heap.size U (.slice (some ⟨gb, 0, none⟩) m cb) (ls.set k (List.replicate q cc ++ pk.drop q)))) (fun i _ => pl - (intOf i).toNat)
          case atStart => exact ⟨0, Nat.zero_le _, rfl, Lib.hid ⟨HR.out.1, HR.out.2.1, by rw [List.replicate_zero, List.drop_zero, List.nil_append, set_same HLK2.out]; exact HR.out.2.2.1⟩⟩
          case round =>
            obtain ⟨q, hq, rfl, HQ⟩ := hrel
            have HQL : Hid ((List.replicate q cc ++ pk.drop q).length = pl) := Lib.hid (by rw [List.length_append, List.length_replicate, List.length_drop, HPE.out]; omega)
            obtain ⟨g1, gx, hg1, hcx, hb1, hb2, hb3, _, hat⟩ := HQ.out.2.2.at (k := k) (p := List.replicate q cc ++ pk.drop q) (by rw [List.getElem?_set_self (by rw [HR.out.2.2.2.1]; exact hlt)])
            rw [HQL.out] at hcx hat
            simp only [Option.some.injEq, Addr.mk.injEq, and_true] at hg1
            subst hg1
            by_cases hql : q < pl
            · obtain ⟨⟨x, hcy⟩, hfz, hset⟩ := hat q hql
              have HST := Lib.hid hset
              have HBX := Lib.hid (And.intro hb1 hb2)
              clear hat hset hb1 hb2 hb3
              go_wp2_with fail
              go_roundw
              case rel => exact ⟨q + 1, by omega, by go_num, Lib.hid ⟨HQ.out.1.setCell (.inr HBX.out.1) _, HQ.out.2.1.kpB ((Kp.refl [gx] wr).setCell (.inl (by simp)) _) (fun b hb => by rw [List.mem_singleton] at hb; subst hb; exact Nat.lt_of_lt_of_le HBX.out.2 HUB.out), by rw [HV.out]; have := HST.out cc; rw [List.set_set, over_step pk cc (by rw [HPE.out]; exact hql)] at this; exact this⟩⟩
              case measure => simp [intOf]; omega
            · obtain rfl : pl = q := by omega
              clear hat hb1 hb2 hb3
              go_wp2_with fail
              go_roundw
              case rel => exact ⟨k + 1, ls.set k (List.replicate pl cc), by omega, by go_num, Lib.hid ⟨HQ.out.1, HQ.out.2.1, (by have := HQ.out.2.2; rw [List.drop_of_length_le (by rw [HPE.out]; exact Nat.le_refl _), List.append_nil] at this; exact this), (by rw [List.length_set]; exact HR.out.2.2.2.1), fun j hj => (by
                by_cases hjk : k = j
                · subst hjk
                  rw [List.getElem?_set_self (by rw [HR.out.2.2.2.1]; exact hlt), HPK.out, HPE.out, HCC.out]
                · rw [List.getElem?_set_ne hjk]
                  exact HR.out.2.2.2.2.1 j (by omega)), fun j hj => (by
                rw [List.getElem?_set_ne (by omega)]
                exact HR.out.2.2.2.2.2 j (by omega))⟩⟩
              case measure => simp [intOf]; omega
        · obtain rfl : m = k := by omega
          have HK37 := Lib.hid HR.out.1
          have HA7 := Lib.hid HR.out.2.1
          have HB7 := Lib.hid HR.out.2.2.1
          have HLS : Hid (ls.length = m ∧ ∀ j, j < m → ls[j]? = some (List.replicate (PA j).length (lo8 (mark + j)))) := Lib.hid ⟨HR.out.2.2.2.1, HR.out.2.2.2.2.1⟩
          clear HR hk hlt HB6 HA6 HK36
          generalize wr = w7 at *
          go_wp2_with fail
          go_loopw [16, 17] (fun v i wr => ∃ (k : Nat) (mo : List (List UInt8)), k ≤ m ∧ i = .int .i64 k ∧ Hid (Kp [] w7 wr ∧ Pts wr w7.heap.size v mo ∧ mo.length = k ∧ ∀ j, j < k → mo[j]? = some (List.replicate (PA j).length (lo8 (mark + j)) ++ [lo8 (mark + 50)]))) (fun _ i _ => m - (intOf i).toNat)
          case atStart => exact ⟨0, [], Nat.zero_le _, rfl, Lib.hid ⟨Kp.refl [] w7, Pts.nil _ _, rfl, fun j hj => absurd hj (Nat.not_lt_zero _)⟩⟩
          case round =>
            obtain ⟨k, mo, hk, rfl, HR⟩ := hrel
            by_cases hlt : k < m
            · obtain ⟨g1, gx, hg1, hcx, _, _, _, hrd, _⟩ := (HB7.out.kp HR.out.1).at (HLS.out.2 k hlt)
              simp only [Option.some.injEq, Addr.mk.injEq, and_true] at hg1
              subst hg1
              have HPL : Hid ((PA k).length ≤ 512) := Lib.hid (HLG.out k hlt).2.2
              have HV : Hid (Value.int .u8 (wrap64 (mark + 50) % 256) = bval (lo8 (mark + 50))) := Lib.hid (by rw [← lo8_val]; congr 1; unfold wrap64; omega)
              have HML3 : Hid (mo.length ≤ 3) := Lib.hid (by rw [HR.out.2.2.1]; have := HM2.out; omega)
              rw [List.length_replicate] at hcx hrd
              have HRD := Lib.hid hrd
              have HLE : Hid ((bv (List.replicate (PA k).length (lo8 (mark + (k : Int))))).length = (PA k).length) := Lib.hid (by rw [bv_length, List.length_replicate])
              obtain ⟨pk, hpk⟩ : ∃ pk, List.replicate (PA k).length (lo8 (mark + (k : Int))) = pk := ⟨_, rfl⟩
              rw [hpk] at HRD HLE
              have HPK := Lib.hid hpk
              clear hrd hpk
              generalize hpl : (PA k).length = pl at *
              have HPE := Lib.hid hpl
              clear hpl
              have hcx2 : (wr.alloc (.cells #[Value.int .u8 (wrap64 (mark + 50) % 256)] 5)).cell? ⟨gb, k, none⟩ = some (.slice (some ⟨gx, 0, none⟩) pl pl) := ((Kp.refl [] wr).alloc _).cell_some hcx (by simp)
              go_wp2_with (first
                | (at_builtin; (refine wpl_app_pts rfl (.tmp 131) (.tmp 141) rfl rfl rfl (HR.out.2.1.kp HK8.out) (HO8.out.base HR.out.1.size) rfl (Nat.le_trans HR.out.1.size HK8.out.size) (by have := HML3.out; omega) ?_; intro v9 w9 hp9 hk9 hb9; have HR9 : Hid (Kp [] w7 w9 ∧ Pts w9 w7.heap.size v9 (mo ++ [pk ++ [lo8 (mark + 50)]])) := Lib.hid ⟨(HR.out.1.trans0 HK8.out).trans hk9 (fun b hb => .inr (hb9 b (by simpa using hb))), hp9⟩; clear hp9 hk9 hb9))
                | (at_builtin; (refine wpl_append_full el_u8 rfl (.tmp 135) (.tmp 139) rfl rfl rfl (HRD.out.kp0 ((Kp.refl [] wr).alloc _)) (rd_lit1 wr 5 _) (by simp) (by rw [HLE.out]; simp; have := HPL.out; omega) (by rw [HLE.out]; simp; have := HPL.out; omega) (by simp) ?_; intro v8 w8 ho8 hg8; obtain ⟨a8, c8, hv8⟩ := ho8.rd.form; rw [List.length_append, HLE.out] at hv8; change v8 = .slice a8 (pl + 1) c8 at hv8; subst hv8; have HK8 : Hid (Kp [] wr w8) := Lib.hid (((Kp.refl [] wr).alloc _).trans0 (Kp.of_grown0 hg8)); have HO8 : Hid (Own w8 wr.heap.size 5 _ (bv (pk ++ [lo8 (mark + 50)]))) := Lib.hid (by rw [bv_append]; have h2 := ho8.base (B' := wr.heap.size) (by simp); rw [HV.out] at h2; exact h2); clear ho8 hg8))
                | fail)
              go_roundw
              case rel => exact ⟨k + 1, _, by omega, by go_num, Lib.hid ⟨HR9.out.1, HR9.out.2, by rw [List.length_append, HR.out.2.2.1]; rfl, fun j hj => (by
                by_cases hjk : k = j
                · subst hjk
                  rw [List.getElem?_append_right (by rw [HR.out.2.2.1]; exact Nat.le_refl _), HR.out.2.2.1, Nat.sub_self, HPE.out, HPK.out]
                  rfl
                · rw [List.getElem?_append_left (by rw [HR.out.2.2.1]; omega)]
                  exact HR.out.2.2.2 j (by omega))⟩⟩
              case measure => simp [intOf]; omega
            · obtain rfl : m = k := by omega
              obtain ⟨gm, cm, rfl, hmq, _⟩ := HR.out.2.1.shapeN (by intro e; have h1 := HR.out.2.2.1; rw [e] at h1; have := HM2.out; simp at h1; omega)
              rw [HR.out.2.2.1]
              have HMQ8 := Lib.hid hmq
              have HMG : Hid (∀ j, j < m → mo[j]? = some (List.replicate (PA j).length (lo8 (mark + j)) ++ [lo8 (mark + 50)])) := Lib.hid HR.out.2.2.2
              have HLS2 : Hid (∀ j, j < m → ls[j]? = some (List.replicate (PA j).length (lo8 (mark + j)))) := Lib.hid HLS.out.2
              have HKW8 : Hid (Kp [] w wr) := Lib.hid (HKW.out.trans0 (HK37.out.trans0 HR.out.1))
              have HA8 : Hid (Pq wr (fun _ => False) ga LA ∧ Rdd wr (.slice (some ⟨ga, 0, none⟩) m ca) LA) := Lib.hid ⟨HAQ.out.1.kp0 (HK37.out.trans0 HR.out.1), HAQ.out.2.kp0 (HK37.out.trans0 HR.out.1)⟩
              have HA08 : Hid (Pq wr (fun _ => False) g0 LA ∧ Rdd wr (.slice (some ⟨g0, 0, none⟩) m c0) LA) := Lib.hid (by
                obtain ⟨g, c, he, h1, h2⟩ := (HA7.out.kp HR.out.1).shapeN HLN.out
                simp only [Value.slice.injEq, Option.some.injEq, Addr.mk.injEq, and_true] at he
                obtain ⟨rfl, _, rfl⟩ := he
                rw [HLL.out] at h2
                exact ⟨h1, h2⟩)
              have HBQ8 : Hid (Pq wr (fun _ => False) gb ls) := Lib.hid (by
                obtain ⟨g, c, he, h1, h2⟩ := (HB7.out.kp HR.out.1).pts.shapeN (by intro e; have h1 := HLS.out.1; rw [e] at h1; have := HM2.out; simp at h1; omega)
                simp only [Value.slice.injEq, Option.some.injEq, Addr.mk.injEq, and_true] at he
                obtain ⟨rfl, _, rfl⟩ := he
                exact h1)
              clear HR hk hlt hmq HLS HA7 HB7 HK37 HAQ HK35 HUB HKW
              generalize wr = w8 at *
              go_wp2_with (first
                | (go_at_call 24; go_must (refine (same_any _ _ LA _ HA8.out.2 HA08.out.2 (by rw [HLL.out]; have := HM2.out; omega)).mono ?_; rintro e w9 ⟨rfl, hk9⟩; have HK9 := Lib.hid hk9; clear hk9))
                | (go_at_call 25; go_must (refine (new1_any 2 _ (by decide) (by decide)).mono ?_; rintro e w10 ⟨t, F0, rfl, htr, hf, hk⟩; have HX10 : Hid (LX w8 w10 F0 t 2 (TT 0) [] []) := Lib.hid ⟨HK9.out.trans0 hk, (by rw [E0.out]; exact htr), (fun p hp => absurd hp (by simp)), (fun r hr => absurd hr (by simp)), fun b hb => Nat.le_trans HK9.out.size (hf b hb)⟩; clear htr hf hk))
                | fail)
              have HADD : Hid (∀ k W F a c, k < m → LX w8 W F t 2 (TT k) [] [] → Rd W (.slice a (PA k).length c) (bv (PA k)) → Calls Tryd.prog 26 #[.pointer (some ⟨t, 0, none⟩), .string ⟨#[120]⟩, .slice a (PA k).length c] W fun e w' => e = .returned (.tuple #[.int .u32 id, .bool (decide (m - (k + 1) = 0)), .int .i64 0]) ∧ LX w8 w' (Fn F W w') t 2 (TT (k + 1)) [] [] ∧ ∃ L, (∀ b ∈ L, F b) ∧ Kp L W w') := Lib.hid (fun k W F a c hk h hv => lx_add HML.out (fun W v l kk => HMC.out W v l (HKW8.out.trans0 kk)) h peerX_len hv (by have := (HLG.out k hk).2.2; omega) (E1.out k hk))
              have HMIS : Hid (∀ k W F, k < m → LX w8 W F t 2 (TT (k + 1)) [] [] → Calls Tryd.prog 27 #[.pointer (some ⟨t, 0, none⟩), .string ⟨#[120]⟩, .int .u32 id] W fun e w' => ∃ a c, e = .returned (.tuple #[.slice a (m - (k + 1)) c, .int .i64 0]) ∧ Own w' W.heap.size 3 (.slice a (m - (k + 1)) c) (nv (List.range' (k + 1) (m - (k + 1)))) ∧ LX w8 w' F t 2 (TT (k + 1)) [] [] ∧ Kp [] W w') := Lib.hid (fun k W F hk h => (lx_missing h peerX_len HID.out.1 HID.out.2 (E2.out k hk)).mono fun e w' ⟨v, h1, h2, h3, h4⟩ => by
                obtain ⟨a, c, rfl⟩ := h2.rd.form
                rw [nv_len, List.length_range'] at h1 h2
                exact ⟨a, c, h1, h2, h3, h4⟩)
              have HTAK : Hid (∀ W F, LX w8 W F t 2 (TT m) [] [] → Calls Tryd.prog 28 #[.pointer (some ⟨t, 0, none⟩), .string ⟨#[120]⟩, .int .u32 id] W fun e w' => ∃ g, e = .returned (.tuple #[.slice (some ⟨g, 0, none⟩) N N, .int .i64 0]) ∧ Cut w' W.heap.size (.slice (some ⟨g, 0, none⟩) N N) A ∧ Kp [] w8 w') := Lib.hid (fun W F h => (lx_take h peerX_len HID.out.1 HID.out.2 E3.out).mono fun e w' ⟨v, h1, h2, h3, _⟩ => by
                have h2' := h2
                rcases h2 with ⟨_, hz⟩ | ⟨g, cur, rfl, _⟩
                · have hz' : A = [] := hz
                  have := HAL.out
                  rw [hz'] at this
                  have := HNB.out
                  simp at *
                  omega
                · have hA : (A, (0 : Int)).1.length = N := HAL.out
                  rw [hA] at h1 h2'
                  exact ⟨g, h1, h2', h3.k⟩)
              clear HSP HML HMC E0 E1 E2 E3
              go_loopw [20] (fun i wr => ∃ (k : Nat) (F : Nat → Prop), k ≤ m ∧ i = .int .i64 k ∧ Hid (LX w8 wr F t 2 (TT k) [] [])) (fun i _ => m - (intOf i).toNat)
              case atStart => exact ⟨0, F0, Nat.zero_le _, rfl, HX10⟩
              case round =>
                obtain ⟨k, F, hk, rfl, HR⟩ := hrel
                by_cases hlt : k < m
                · obtain ⟨ap, cp, hcell, hrs⟩ := (HA8.out.1.kp0 HR.out.k).at (HLG.out k hlt).1
                  obtain ⟨ap0, cp0, hcell0, hrs0⟩ := (HA08.out.1.kp0 HR.out.k).at (HLG.out k hlt).1
                  have HRD := Lib.hid hrs.r
                  have HRD0 := Lib.hid hrs0.r
                  have HPL : Hid ((PA k).length ≤ 512) := Lib.hid (HLG.out k hlt).2.2
                  have hcell2 : (wr.alloc (.cells #[] 5)).cell? ⟨ga, k, none⟩ = some (.slice ap (PA k).length cp) := ((Kp.refl [] wr).alloc _).cell_some hcell (by simp)
                  have HADK := Lib.hid (fun W F a c => HADD.out k W F a c hlt)
                  have HMIK := Lib.hid (fun W F => HMIS.out k W F hlt)
                  have HC := Lib.hid (And.intro hcell hcell0)
                  have HLK := Lib.hid (HLG.out k hlt).1
                  clear hrs hrs0 hcell hcell0
                  generalize hrr : m - (k + 1) = r at *
                  have HRR := Lib.hid hrr
                  clear hrr
                  generalize PA k = pk at *
                  generalize hpl : pk.length = pl at *
                  have HPE := Lib.hid hpl
                  have hpl5 : pl ≤ 512 := HPL.out
                  clear hpl
                  obtain ⟨wo, rfl⟩ : ∃ wo : World, wo = wr := ⟨_, rfl⟩
                  go_upto_region 33 with (first
                    | (at_builtin; (refine wpl_append el_u8 rfl (.tmp 168) (.tmp 169) rfl rfl rfl (HO11.out.kp0 ((Kp.refl [] w11).alloc _)) (rd_lit2 w11 5 _ _) (by simp [Value.oneCell']) (by rw [bv_length, HPE.out]; simp; omega) (by rw [bv_length, HPE.out]; simp; omega) (Nat.le_trans HK11.out.size (by simp)) ?_; intro v12 w12 ho12 hg12; rw [app88] at ho12; have HK12 : Hid (Kp [] wo w12) := Lib.hid ((HK11.out.alloc _).grown hg12 (fun b hb => .inr (HO11.out.lt hb).1)); have HO12 := Lib.hid ho12; clear ho12 hg12))
                    | (at_builtin; (refine wpl_append el_u8 rfl (.tmp 163) (.tmp 167) rfl rfl rfl (Own.lit wo 5 #[] (Nat.le_refl _) (by simp)) (HRD.out.kp0 ((Kp.refl [] wo).alloc _)) (bv_oneCell _) (by rw [bv_length, HPE.out]; simp; omega) (by rw [bv_length, HPE.out]; simp; omega) (by simp) ?_; intro v11 w11 ho11 hg11; have HO11 : Hid (Own w11 wo.heap.size 5 v11 (bv pk)) := Lib.hid ho11; have HK11 : Hid (Kp [] wo w11) := Lib.hid ((((Kp.refl [] wo).alloc _)).grown hg11 (fun b hb => by cases hb; exact .inr (Nat.le_refl _))); clear ho11 hg11))
                    | fail)
                  obtain ⟨a12, c12, hv12⟩ := HO12.out.rd.form
                  rw [show (bv (pk ++ [8, 8])).length = pl + 2 by rw [bv_length, List.length_append, HPE.out]; rfl] at hv12
                  subst hv12
                  obtain ⟨s13, n13, c13, hs13, hr13⟩ := run_subb_h el_byt HO12.out.rd (pl : Int) (by omega) (by omega)
                  rw [show (pl : Int).toNat = pl from rfl, List.take_append_of_le_length (by rw [HPE.out]; exact Nat.le_refl _), List.take_of_length_le (by rw [HPE.out]; exact Nat.le_refl _)] at hr13
                  obtain rfl : pl = n13 := by have := hr13.len; rw [bv_length, HPE.out] at this; exact this.symm
                  have HR13 := Lib.hid hr13
                  have hca12 : w12.cell? ⟨ga, k, none⟩ = some (.slice ap pl cp) := HK12.out.cell_some HC.out.1 (by simp)
                  have HX12 := Lib.hid (HR.out.kp0 HK12.out)
                  have HSF12 : Hid (Sf w12 F (.slice a12 (pl + 2) c12)) := Lib.hid (fun b hb => ⟨fun hf => absurd (HR.out.tr.lt b hf) (Nat.not_lt.2 (HO12.out.lt hb).1), (HO12.out.lt hb).2⟩)
                  have HB8 : Hid (w8.heap.size ≤ wo.heap.size) := Lib.hid HR.out.k.size
                  clear hr13 hcell2 HK11 HO11 HC HRD HRD0
                  go_upto_region 34 with (first
                    | (go_at_call 26; go_must (refine (HADK.out _ _ _ _ HX12.out HR13.out).mono ?_; rintro e w13 ⟨rfl, hx13, L13, hL13, hk13⟩; have HX13 := Lib.hid hx13; have HO13 := Lib.hid (HO12.out.kp hk13 (HSF12.out.not hL13)); have HSF13 := Lib.hid (HSF12.out.fn hk13.size); clear hx13 hL13 hk13))
                    | fail)
                  generalize Fn F w12 w13 = F13 at *
                  obtain ⟨ap2, cp2, hcd2, hrs2⟩ := (HA08.out.1.kp0 HX13.out.k).at HLK.out
                  rw [HPE.out] at hcd2 hrs2
                  have hcdn : ∀ n, (w13.drewN n).cell? ⟨g0, k, none⟩ = some (.slice ap2 pl cp2) := fun n => hcd2
                  have hcv1 : ∀ n, (convert 27 9 (.slice ap2 pl cp2)).run Tryd.prog (w13.drewN n) = .ok (.string (strOf pk)) (w13.drewN n) := fun n => run_str Tryd.underlying27 Tryd.underlying5 Tryd.underlying9 (hrs2.r.kp0 ((Kp.refl [] w13).drewN n))
                  have hcv2 : ∀ n, (convert 27 9 (.slice a12 (pl + 2) c12)).run Tryd.prog (w13.drewN n) = .ok (.string (strOf (pk ++ [8, 8]))) (w13.drewN n) := fun n => run_str Tryd.underlying27 Tryd.underlying5 Tryd.underlying9 (HO13.out.rd.kp0 ((Kp.refl [] w13).drewN n))
                  have hq : ((strOf (pk ++ [8, 8])).toList == (strOf pk ++ ⟨#[8, 8]⟩ : ByteArray).toList) = true := by rw [show (⟨#[8, 8]⟩ : ByteArray) = strOf [8, 8] from rfl, strOf_append]; simp
                  have hzs : (strOf pk).size ≤ 9223372036854775805 := by rw [strOf_size, HPE.out]; omega
                  clear hcd2 hrs2 hca12 hs13 HR13 HSF12 HO12 HX12 HR HK12 HADK
                  generalize strOf (pk ++ [8, 8]) = zw at *
                  generalize strOf pk = zk at *
                  go_quiet (fail)
                  have HX14 := Lib.hid (HX13.out.kp0 ((Kp.refl [] w13).drewN nq))
                  have HO14 := Lib.hid (HO13.out.kp0 ((Kp.refl [] w13).drewN nq))
                  have HSF14 : Hid (Sf (w13.drewN nq) F13 (.slice a12 (pl + 2) c12)) := Lib.hid (HSF13.out.kp (Nat.le_refl _))
                  clear HX13 HO13 HSF13 hcdn hcv1 hcv2 hq hzs
                  generalize w13.drewN nq = w14 at *
                  have HVM : Hid (Value.int .u8 (mark % 256) = bval (lo8 mark)) := Lib.hid (lo8_val mark)
                  have HL0 : Hid ((pk ++ [8, 8]).length = pl + 2) := Lib.hid (by rw [List.length_append, HPE.out]; rfl)
                  go_wp2_with fail
                  go_loopw [25] (fun i wr => ∃ (q : Nat) (lw : List UInt8), q ≤ pl + 2 ∧ i = .int .i64 q ∧ Hid (lw.length = pl + 2 ∧ LX w8 wr F13 t 2 (TT (k + 1)) [] [] ∧ Own wr wo.heap.size 5 (.slice a12 (pl + 2) c12) (bv lw) ∧ Sf wr F13 (.slice a12 (pl + 2) c12))) (fun i _ => pl + 2 - (intOf i).toNat)
                  case atStart => exact ⟨0, _, Nat.zero_le _, rfl, Lib.hid ⟨HL0.out, HX14.out, HO14.out, HSF14.out⟩⟩
                  case round =>
                    obtain ⟨q, lw, hq, rfl, HQ⟩ := hrel
                    by_cases hql : q < pl + 2
                    · obtain ⟨g, ha, hcy, hfz, hb1, hb2, hset⟩ := HQ.out.2.2.1.slot (k := q) (by rw [HQ.out.1]; exact hql)
                      subst ha
                      have HST := Lib.hid hset
                      have HBB := Lib.hid (Nat.le_trans HB8.out hb1)
                      have hqI : (q : Int) < (pl : Int) + 2 := by omega
                      generalize (lw[q]'_).toNat = xo at *
                      clear hset hb1 hb2
                      go_wp2_with fail
                      go_roundw
                      case rel => exact ⟨q + 1, lw.set q (lo8 mark), by omega, by go_num, Lib.hid ⟨by rw [List.length_set]; exact HQ.out.1, HQ.out.2.1.setX ((Kp.refl [g] wr).setCell (.inl (by simp)) _) (fun b hb => by rw [List.mem_singleton] at hb; subst hb; exact ⟨(HQ.out.2.2.2 _ rfl).1, HBB.out⟩), by rw [HVM.out]; exact HST.out _, HQ.out.2.2.2.kp (by simp)⟩⟩
                      case measure => simp [intOf]; omega
                    · have HX15 := Lib.hid HQ.out.2.1
                      have hqe : ¬ (q : Int) < (pl : Int) + 2 := by omega
                      have hm3 := HM2.out.2
                      have hrI : (r : Int) = (m : Int) - 1 - (k : Int) := by have := HRR.out; omega
                      have hrN : ((r : Int) != (m : Int) - 1 - (k : Int)) = false := by rw [hrI]; simp
                      have HRI := Lib.hid hrI
                      clear HQ hrI HX14 HO14 HSF14 HL0
                      generalize wr = w15 at *
                      go_upto_region 42 with (first
                        | (go_at_call 27; (with_reducible refine (HMIK.out _ _ HX16.out).mono ?_); rintro e w17 ⟨a17, c17, rfl, ho17, hx17, hk17⟩; have HM2b := Lib.hid ho17; have HK17 := Lib.hid hk17; clear ho17 hx17 hk17)
                        | (go_at_call 27; go_must (refine (HMIK.out _ _ HX15.out).mono ?_; rintro e w16 ⟨a16, c16, rfl, ho16, hx16, hk16⟩; have HM1 := Lib.hid ho16; have HX16 := Lib.hid hx16; clear ho16 hx16 hk16))
                        | fail)
                      have HM2c : Hid (Own w17 w16.heap.size 3 (.slice a17 r c17) (nv (List.range' (k + 1) r)) ∧ Kp [] w16 w17) := Lib.hid ⟨HM2b.out, HK17.out⟩
                      have HRL : Hid ((nv (List.range' (k + 1) r)).length = r) := Lib.hid (by rw [nv_len, List.length_range'])
                      have HR3 : Hid (r ≤ 3) := Lib.hid (by have := HRI.out; omega)
                      clear HM2b HK17 hqe hql hq
                      go_wp2_with fail
                      go_loopw [30] (fun i wr => ∃ (q : Nat) (xs : List Value), q ≤ r ∧ i = .int .i64 q ∧ Hid (xs.length = r ∧ Kp [] w16 wr ∧ Own wr w16.heap.size 3 (.slice a17 r c17) xs)) (fun i _ => r - (intOf i).toNat)
                      case atStart => exact ⟨0, _, Nat.zero_le _, rfl, Lib.hid ⟨HRL.out, HM2c.out.2, HM2c.out.1⟩⟩
                      case round =>
                        obtain ⟨q, xs, hq, rfl, HQ⟩ := hrel
                        by_cases hql : q < r
                        · obtain ⟨g, ha, hcy, hfz, hb1, hb2, hset⟩ := HQ.out.2.2.slotV (k := q) (by rw [HQ.out.1]; exact hql)
                          subst ha
                          have HST := Lib.hid hset
                          have HBB := Lib.hid hb1
                          have hq3 : (q : Int) < 3 := by have := HR3.out; omega
                          generalize (xs[q]'_) = xo at *
                          clear hset hb1 hb2
                          go_wp2_with fail
                          go_roundw
                          case rel => exact ⟨q + 1, _, by omega, by go_num, Lib.hid ⟨by rw [List.length_set]; exact HQ.out.1, HQ.out.2.1.setCell (.inr HBB.out) _, HST.out _⟩⟩
                          case measure => simp [intOf]; omega
                        · have hqe : ¬ (q : Int) < (r : Int) := by omega
                          go_wp2_with (first
                            | (at_builtin; (refine wpl_append el_int rfl (.tmp 254) (.tmp 257) rfl rfl rfl (HQ.out.2.2.kp0 ((Kp.refl [] wr).alloc _)) (rd_lit1 wr 3 _) (by simp [Value.oneCell']) (by rw [HQ.out.1]; simp; have := HR3.out; omega) (by rw [HQ.out.1]; simp; have := HR3.out; omega) (Nat.le_trans HQ.out.2.1.size (by simp)) ?_; intro v18 w18 ho18 hg18; have HK18 : Hid (Kp [] w16 w18) := Lib.hid ((HQ.out.2.1.alloc _).grown hg18 (fun b hb => .inr (HQ.out.2.2.lt hb).1)); clear ho18 hg18))
                            | fail)
                          clear HQ hqe hql hq HM2c
                          go_loopw [31] (fun i wr => ∃ q : Nat, q ≤ r ∧ i = .int .i64 q ∧ Hid (Kp [] w16 wr)) (fun i _ => r - (intOf i).toNat)
                          case atStart => exact ⟨0, Nat.zero_le _, rfl, HK18⟩
                          case round =>
                            obtain ⟨q, hq, rfl, HQ⟩ := hrel
                            by_cases hql : q < r
                            · obtain ⟨b, off, ha, hcy⟩ := (HM1.out.rd.kp0 HQ.out).num (k := q) (x := k + 1 + q) (by rw [List.getElem?_range' (by omega)]; simp)
                              subst ha
                              rw [show ((k + 1 + q : Nat) : Int) = (k : Int) + 1 + (q : Int) by omega] at hcy
                              have hq3 : (q : Int) < 3 := by have := HR3.out; omega
                              have hqI : (q : Int) < (r : Int) := by omega
                              go_wp2_with fail
                              go_roundw
                              case rel => exact ⟨q + 1, by omega, by go_num, HQ⟩
                              case measure => simp [intOf]; omega
                            · have hqe : ¬ (q : Int) < (r : Int) := by omega
                              go_wp2_with fail
                              go_roundw
                              case rel => exact ⟨k + 1, F13, by omega, by go_num, Lib.hid (HX16.out.kp0 HQ.out)⟩
                              case measure => simp [intOf]; omega
                · obtain rfl : m = k := by omega
                  have HX20 := Lib.hid HR.out
                  clear HR hk hlt HX10 HADD HMIS
                  generalize wr = w20 at *
                  go_upto_region 55 with (first
                    | (go_at_call 28; go_must (refine (HTAK.out _ _ HX20.out).mono ?_; rintro e w21 ⟨gt, rfl, hct21, hk21⟩; have HGT := Lib.hid (hct21.baseN HX20.out.k.size); have HK21 := Lib.hid hk21; clear hct21 hk21))
                    | fail)
                  clear HX20 HTAK HK9
                  have hct : ∀ W, Kp [] w21 W → (convert 27 9 (.slice (some ⟨gt, 0, none⟩) N N)).run Tryd.prog W = .ok (.string (strOf A)) W := fun W h => run_str Tryd.underlying27 Tryd.underlying5 Tryd.underlying9 (HGT.out.rd.kp0 h)
                  have hrc : ∀ W (l : List UInt8) a n c, Rd W (.slice a n c) (bv l) → (convert 27 9 (.slice a n c)).run Tryd.prog W = .ok (.string (strOf l)) W := fun W l a n c h => run_str Tryd.underlying27 Tryd.underlying5 Tryd.underlying9 h
                  have hq : ((strOf A).toList == (strOf A).toList) = true := by simp
                  obtain ⟨zB, hzB⟩ : ∃ z, strOf A = z := ⟨_, rfl⟩
                  rw [hzB] at hct hq
                  have HZB := Lib.hid hzB
                  clear hzB
                  refine wp_region_noPanic ?_
                  refine wp_region_held_drew (S := fun W => Kp [] w21 W) (by kernel_rfl) ((Kp.refl [] w21).drew) (fun hHeld => ?_)
                  refine wpAnyH_take (i := 0) (oi := { dst := some 280, op := Op.move (Operand.tmp 33), type := 28, pos := "law.go:252", after := #[], guard := none }) (v := .int .i64 0) rfl (by kernel_rfl) (by kernel_rfl) (by kernel_rfl) (fun _ _ _ h => h) (Or.inl ⟨by rfl, by intro w hSw; (try dsimp only at hSw); go_simp⟩) (by assumption) ?_
                  try simp only [Act.put, List.setIfInBounds_toArray, List.set_cons_zero, List.set_cons_succ]
                  refine wpAnyH_take (i := 1) (oi := { dst := some 281, op := Op.binOp BinOp.neq 28 (Operand.tmp 280) (Operand.const (Value.int IntKind.i64 0)) 28, type := 4, pos := "law.go:252", after := #[{ on := 0, ground := Ground.data }], guard := none }) (v := .bool false) rfl (by kernel_rfl) (by kernel_rfl) (by kernel_rfl) (fun _ _ _ h => h) (Or.inl ⟨by rfl, by intro w hSw; (try dsimp only at hSw); go_simp⟩) (by assumption) ?_
                  try simp only [Act.put, List.setIfInBounds_toArray, List.set_cons_zero, List.set_cons_succ]
                  refine wpAnyH_take (i := 2) (oi := { dst := some 282, op := Op.move (Operand.tmp 281), type := 4, pos := "law.go:252", after := #[{ on := 1, ground := Ground.data }], guard := none }) (v := .bool false) rfl (by kernel_rfl) (by kernel_rfl) (by kernel_rfl) (fun _ _ _ h => h) (Or.inl ⟨by rfl, by intro w hSw; (try dsimp only at hSw); go_simp⟩) (by assumption) ?_
                  try simp only [Act.put, List.setIfInBounds_toArray, List.set_cons_zero, List.set_cons_succ]
                  refine wpAnyH_take (i := 3) (oi := { dst := some 283, op := Op.move (Operand.tmp 32), type := 27, pos := "law.go:252", after := #[{ on := 2, ground := Ground.guard }], guard := some (2, false) }) (v := .slice (some ⟨gt, 0, none⟩) N N) rfl (by kernel_rfl) (by kernel_rfl) (by kernel_rfl) (fun _ _ _ h => h) (Or.inl ⟨by rfl, by intro w hSw; (try dsimp only at hSw); go_simp⟩) (by assumption) ?_
                  try simp only [Act.put, List.setIfInBounds_toArray, List.set_cons_zero, List.set_cons_succ]
                  refine wpAnyH_take (i := 4) (oi := { dst := some 284, op := Op.convert 27 9 (Operand.tmp 283), type := 9, pos := "law.go:252", after := #[{ on := 3, ground := Ground.data }, { on := 2, ground := Ground.guard }], guard := some (2, false) }) (v := .string zB) rfl (by kernel_rfl) (by kernel_rfl) (by kernel_rfl) (fun _ _ _ h => h) (Or.inl ⟨by rfl, by intro w hSw; (try dsimp only at hSw); have hcx := hct _ hSw; go_simp⟩) (by assumption) ?_
                  try simp only [Act.put, List.setIfInBounds_toArray, List.set_cons_zero, List.set_cons_succ]
                  refine wpAnyH_take (i := 5) (oi := { dst := some 285, op := Op.move (Operand.tmp 0), type := 3, pos := "law.go:252", after := #[{ on := 2, ground := Ground.guard }], guard := some (2, false) }) (v := .int .i64 N) rfl (by kernel_rfl) (by kernel_rfl) (by kernel_rfl) (fun _ _ _ h => h) (Or.inl ⟨by rfl, by intro w hSw; (try dsimp only at hSw); go_simp⟩) (by assumption) ?_
                  try simp only [Act.put, List.setIfInBounds_toArray, List.set_cons_zero, List.set_cons_succ]
                  refine wpAnyH_ready (rs := [6]) (by kernel_rfl) (by simp) ?_
                  refine AllReadyH.cons (o := { dst := some 286, op := Op.call { callee := Callee.value (Operand.func 22), args := #[Operand.tmp 285, Operand.const (Value.int IntKind.i64 3)], argTypes := #[3, 3] }, type := 27, pos := "law.go:252", after := #[{ on := 5, ground := Ground.data }, { on := 2, ground := Ground.chain }, { on := 2, ground := Ground.guard }], guard := some (2, false) }) rfl (fun K' hK => ?_) AllReadyH.nil
                  go_simp
                  refine (HLA.out _).mono ?_
                  rintro e w22 ⟨a22, c22, rfl, hol22, hkl22⟩
                  have hS22 : Kp [] w21 w22 := hHeld.trans0 hkl22
                  have hcl22 := hrc _ _ _ _ _ hol22.rd
                  rw [HZB.out] at hcl22
                  clear hHeld hkl22 hol22
                  (try go_simp)
                  refine hK.out _ _ (hS22) (fun hHeld => ?_)
                  clear hK K'
                  try simp only [Act.put, List.setIfInBounds_toArray, List.set_cons_zero, List.set_cons_succ]
                  refine wpAnyH_ready (rs := [7]) (by kernel_rfl) (by simp) ?_
                  refine AllReadyH.cons (o := { dst := some 287, op := Op.convert 27 9 (Operand.tmp 286), type := 9, pos := "law.go:252", after := #[{ on := 6, ground := Ground.data }, { on := 2, ground := Ground.guard }], guard := some (2, false) }) rfl (fun K' hK => ?_) AllReadyH.nil
                  go_simp
                  (try go_simp)
                  refine hK.out _ _ (hS22) (fun hHeld => ?_)
                  clear hK K'
                  try simp only [Act.put, List.setIfInBounds_toArray, List.set_cons_zero, List.set_cons_succ]
                  refine wpAnyH_take (i := 8) (oi := { dst := some 288, op := Op.binOp BinOp.neq 9 (Operand.tmp 284) (Operand.tmp 287) 9, type := 4, pos := "law.go:252", after := #[{ on := 4, ground := Ground.data }, { on := 7, ground := Ground.data }, { on := 2, ground := Ground.guard }], guard := some (2, false) }) (v := .bool false) rfl (by kernel_rfl) (by kernel_rfl) (by kernel_rfl) (fun _ _ _ h => h) (Or.inl ⟨by rfl, by intro w hSw; (try dsimp only at hSw); go_simp⟩) (by assumption) ?_
                  try simp only [Act.put, List.setIfInBounds_toArray, List.set_cons_zero, List.set_cons_succ]
                  refine wpAnyH_take (i := 9) (oi := { dst := some 289, op := Op.pick (Operand.tmp 282) (Operand.const (Value.bool true)) (Operand.tmp 288), type := 4, pos := "law.go:252", after := #[{ on := 2, ground := Ground.data }, { on := 8, ground := Ground.data }], guard := none }) (v := .bool false) rfl (by kernel_rfl) (by kernel_rfl) (by kernel_rfl) (fun _ _ _ h => h) (Or.inl ⟨by rfl, by intro w hSw; (try dsimp only at hSw); go_simp⟩) (by assumption) ?_
                  try simp only [Act.put, List.setIfInBounds_toArray, List.set_cons_zero, List.set_cons_succ]
                  refine wpAnyH_done (by kernel_rfl) ?_ _
                  refine NoPanic.normal ?_
                  have HK22 := Lib.hid (HK21.out.trans0 hHeld)
                  have HGC := Lib.hid (HGT.out.kpN hHeld)
                  clear hHeld hct hrc hq hcl22 HZB HGT HK21
                  have HVM : Hid (Value.int .u8 (mark % 256) = bval (lo8 mark)) := Lib.hid (lo8_val mark)
                  go_wp2_with fail
                  go_loopw [34] (fun i wr => ∃ (q : Nat) (lw : List UInt8), q ≤ N ∧ i = .int .i64 q ∧ Hid (lw.length = N ∧ Kp [] w8 wr ∧ Cut wr w8.heap.size (.slice (some ⟨gt, 0, none⟩) N N) lw)) (fun i _ => N - (intOf i).toNat)
                  case atStart => exact ⟨0, _, Nat.zero_le _, rfl, Lib.hid ⟨HAL.out, HK22.out, HGC.out⟩⟩
                  case round =>
                    obtain ⟨q, lw, hq, rfl, HQ⟩ := hrel
                    by_cases hql : q < N
                    · obtain ⟨g, ha, hcy, hfz, hb1, hb2, hset⟩ := HQ.out.2.2.slot (k := q) (by rw [HQ.out.1]; exact hql)
                      simp only [Option.some.injEq, Addr.mk.injEq, and_true] at ha
                      subst ha
                      have HST := Lib.hid hset
                      have HBB := Lib.hid hb1
                      have hqI : (q : Int) < (N : Int) := by omega
                      generalize (lw[q]'_).toNat = xo at *
                      clear hset hb1 hb2
                      go_wp2_with fail
                      go_roundw
                      case rel => exact ⟨q + 1, lw.set q (lo8 mark), by omega, by go_num, Lib.hid ⟨by rw [List.length_set]; exact HQ.out.1, HQ.out.2.1.setCell (.inr HBB.out) _, by rw [HVM.out]; exact HST.out _⟩⟩
                      case measure => simp [intOf]; omega
                    · have hqe : ¬ (q : Int) < (N : Int) := by omega
                      have HQL : Hid ((bv lw).length = N) := Lib.hid (by rw [bv_length]; exact HQ.out.1)
                      go_wp2_with (first
                        | (at_builtin; (refine wpl_append_full el_u8 rfl (.tmp 301) (.tmp 305) rfl rfl rfl (HQ.out.2.2.rd.kp0 ((Kp.refl [] wr).alloc _)) (rd_lit1 wr 5 _) (by simp) (by rw [HQL.out]; simp; omega) (by rw [HQL.out]; simp; omega) (by simp) ?_; intro v23 w23 ho23 hg23; have HK23 : Hid (Kp [] w8 w23) := Lib.hid ((HQ.out.2.1.alloc _).trans0 (Kp.of_grown0 hg23)); clear ho23 hg23))
                        | fail)
                      clear HQ HQL hqe hql hq HK22 HGC HVM
                      go_loopw [35] (fun i wr => ∃ k : Nat, k ≤ m ∧ i = .int .i64 k ∧ Hid (Kp [] w8 wr)) (fun i _ => m - (intOf i).toNat)
                      case atStart => exact ⟨0, Nat.zero_le _, rfl, HK23⟩
                      case round =>
                        clear HK23
                        obtain ⟨k, hk, rfl, HR⟩ := hrel
                        by_cases hlk : k < m
                        · obtain ⟨ap1, cp1, hcd1, hrs1⟩ := (HA8.out.1.kp0 HR.out).at (HLG.out k hlk).1
                          obtain ⟨ap2, cp2, hcd2, hrs2⟩ := (HA08.out.1.kp0 HR.out).at (HLG.out k hlk).1
                          have hcdn1 : ∀ n, (wr.drewN n).cell? ⟨ga, k, none⟩ = some (.slice ap1 (PA k).length cp1) := fun n => hcd1
                          have hcdn2 : ∀ n, (wr.drewN n).cell? ⟨g0, k, none⟩ = some (.slice ap2 (PA k).length cp2) := fun n => hcd2
                          have hcv1 : ∀ n, (convert 27 9 (.slice ap1 (PA k).length cp1)).run Tryd.prog (wr.drewN n) = .ok (.string (strOf (PA k))) (wr.drewN n) := fun n => run_str Tryd.underlying27 Tryd.underlying5 Tryd.underlying9 (hrs1.r.kp0 ((Kp.refl [] wr).drewN n))
                          have hcv2 : ∀ n, (convert 27 9 (.slice ap2 (PA k).length cp2)).run Tryd.prog (wr.drewN n) = .ok (.string (strOf (PA k))) (wr.drewN n) := fun n => run_str Tryd.underlying27 Tryd.underlying5 Tryd.underlying9 (hrs2.r.kp0 ((Kp.refl [] wr).drewN n))
                          clear hcd1 hcd2 hrs1 hrs2
                          generalize (PA k).length = pl at *
                          generalize strOf (PA k) = sz at *
                          have hbq : (sz.toList == sz.toList) = true := by simp
                          have hkI : (k : Int) < (m : Int) := by omega
                          go_wp2_with fail
                          go_quiet (fail)
                          go_wp2_with fail
                          go_roundw
                          case rel => exact ⟨k + 1, by omega, by go_num, Lib.hid (HR.out.drewN nq)⟩
                          case measure => simp [intOf]; omega
                        · have hke : ¬ (k : Int) < (m : Int) := by omega
                          have HK24 := HR
                          clear HR
                          go_wp2_with fail
                          clear hke hlk hk
                          go_loopw [36] (fun i wr => ∃ k : Nat, k ≤ m ∧ i = .int .i64 k ∧ Hid (Kp [] w8 wr)) (fun i _ => m - (intOf i).toNat)
                          case atStart => exact ⟨0, Nat.zero_le _, rfl, HK24⟩
                          case round =>
                            clear HK24
                            obtain ⟨k, hk, rfl, HR⟩ := hrel
                            by_cases hlk : k < m
                            · obtain ⟨wo, rfl⟩ : ∃ wo : World, wo = wr := ⟨_, rfl⟩
                              obtain ⟨pl, hpl⟩ : ∃ pl, (PA k).length = pl := ⟨_, rfl⟩
                              have hpl5 : pl ≤ 512 := by rw [← hpl]; exact (HLG.out k hlk).2.2
                              have HBK : Hid (ls[k]? = some (List.replicate pl (lo8 (mark + (k : Int))))) := Lib.hid (by rw [← hpl]; exact HLS2.out k hlk)
                              have HMK2 : Hid (mo[k]? = some (List.replicate pl (lo8 (mark + (k : Int))) ++ [lo8 (mark + 50)])) := Lib.hid (by rw [← hpl]; exact HMG.out k hlk)
                              have HV : Hid (bval (lo8 (mark + (k : Int))) = .int .u8 (wrap64 (mark + (k : Int)) % 256)) := Lib.hid (by rw [← lo8_val]; congr 1; have := HM2.out; unfold wrap64; omega)
                              have HV5 : Hid (bval (lo8 (mark + 50)) = .int .u8 (wrap64 (mark + 50) % 256)) := Lib.hid (by rw [← lo8_val]; congr 1; unfold wrap64; omega)
                              clear hpl
                              have hkI : (k : Int) < (m : Int) := by omega
                              go_wp2_with fail
                              go_loopw [37] (fun i wr => ∃ q : Nat, q ≤ pl ∧ i = .int .i64 q ∧ Hid (Kp [] w8 wr)) (fun i _ => pl - (intOf i).toNat)
                              case atStart => exact ⟨0, Nat.zero_le _, rfl, HR⟩
                              case round =>
                                clear HR
                                obtain ⟨q, hq, rfl, HQ⟩ := hrel
                                obtain ⟨ap1, cp1, hcd1, hrs1⟩ := (HBQ8.out.kp0 HQ.out).at HBK.out
                                rw [List.length_replicate] at hcd1 hrs1
                                by_cases hql : q < pl
                                · obtain ⟨b, off, ha, hx, hcy⟩ := hrs1.r.byte (k := q) hql
                                  subst ha
                                  have hcy2 : wr.cell? ⟨b, off + q, none⟩ = some (.int .u8 (wrap64 (mark + (k : Int)) % 256)) := by
                                    rw [hcy, List.getElem_replicate, ← HV.out]
                                    rfl
                                  have hqI : (q : Int) < (pl : Int) := by omega
                                  clear hcy hx hrs1
                                  go_wp2_with fail
                                  go_roundw
                                  case rel => exact ⟨q + 1, by omega, by go_num, HQ⟩
                                  case measure => simp [intOf]; omega
                                · have hqe : ¬ (q : Int) < (pl : Int) := by omega
                                  obtain ⟨ap2, cp2, hcd2, hrs2⟩ := (HMQ8.out.kp0 HQ.out).at HMK2.out
                                  rw [show (List.replicate pl (lo8 (mark + (k : Int))) ++ [lo8 (mark + 50)]).length = pl + 1 by rw [List.length_append, List.length_replicate]; rfl] at hcd2 hrs2
                                  obtain ⟨b, off, ha, hx, hcy⟩ := hrs2.r.byte (k := pl) (by omega)
                                  subst ha
                                  have hcy2 : ∀ n, (wr.drewN n).cell? ⟨b, off + pl, none⟩ = some (.int .u8 (wrap64 (mark + 50) % 256)) := fun n => by
                                    show wr.cell? _ = _
                                    rw [hcy, ← HV5.out]
                                    have : (List.replicate pl (lo8 (mark + (k : Int))) ++ [lo8 (mark + 50)])[pl]'hx = lo8 (mark + 50) := by
                                      rw [List.getElem_append_right (by simp)]
                                      simp
                                    rw [this]
                                    rfl
                                  have hcdn1 : ∀ n, (wr.drewN n).cell? ⟨gb, k, none⟩ = some (.slice ap1 pl cp1) := fun n => hcd1
                                  have hcdn2 : ∀ n, (wr.drewN n).cell? ⟨gm, k, none⟩ = some (.slice (some ⟨b, off, none⟩) (pl + 1) cp2) := fun n => hcd2
                                  clear hcy hx hrs1 hrs2 hcd2
                                  go_upto_region 75 with fail
                                  clear hcd1
                                  go_quiet (fail)
                                  go_wp2_with fail
                                  go_roundw
                                  case rel => exact ⟨k + 1, by omega, by go_num, Lib.hid (HQ.out.drewN nq)⟩
                                  case measure => simp [intOf]; omega
                            · have hke : ¬ (k : Int) < (m : Int) := by omega
                              go_wp2_with fail
                              go_ret
                              exact ⟨rfl, HKW8.out.trans0 HR.out⟩
end Go.Proofs.YtkceaepbjdfccaaDoor
