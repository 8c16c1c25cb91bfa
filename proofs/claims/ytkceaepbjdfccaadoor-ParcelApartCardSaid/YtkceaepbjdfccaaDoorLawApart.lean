/-
'ParcelApart': the walk, over whatever tells of a text.
-/
import Derived.Test.YtkceaepbjdfccaaDoorLawA0
namespace Go.Proofs.YtkceaepbjdfccaaDoor
open Go.RowKit
theorem partsM2 {mk : List UInt8 → List UInt8} (ml : ∀ l, (mk l).length = 8) (id : Int) {A : List UInt8} (hA : 498 ≤ A.length ∧ A.length ≤ 897) : (partsM mk id A).length = 2 ∧ (partsM mk id A)[0]? = some (partM mk id A 0) ∧ (partsM mk id A)[1]? = some (partM mk id A 1) ∧ (partM mk id A 0).length = 512 ∧ (partM mk id A 1).length = A.length - 482 := by
  have hc := cnt2 hA
  refine ⟨by rw [partsM_len, hc], partsM_get (by omega), partsM_get (by omega), ?_, ?_⟩
  · rw [partM_len ml, contP_length]; omega
  · rw [partM_len ml, contP_length]; omega
theorem partC_set {mk : List UInt8 → List UInt8} (ml : ∀ l, (mk l).length = 8) (id : Int) (A c : List UInt8) (q : Nat) (u : UInt8) : (partC mk id A c 1).set (15 + q) u = partC mk id A (c.set q u) 1 := by
  unfold partC
  rw [List.set_append_right _ _ (by simp [be32]; omega), List.set_append_right _ _ (by rw [ml]; simp [be32]; omega), ml]
  simp only [List.length_append, be32, List.length_cons, List.length_nil]
  rw [show 15 + q - (0 + 1 + (0 + 1 + 1 + 1 + 1) + (0 + 1) + (0 + 1)) - 8 = q by omega]
/-- Split of a text of two parts -/
theorem split2 {mk : List UInt8 → List UInt8} (ml : ∀ l, (mk l).length = 8) {id : Int} {w : World}
    (sp : ∀ W v l, Kp [] w W → Rd W v (bv l) → l.length ≤ 31808 → Calls Tryd.prog 23 #[.int .u32 id, v] W fun e w' => ∃ v', e = .returned (.tuple #[v', .int .i64 0]) ∧ Pts w' W.heap.size v' (partsM mk id l) ∧ Kp [] W w')
    {A : List UInt8} (hA : 498 ≤ A.length ∧ A.length ≤ 897) (W : World) (v : Value) (k : Kp [] w W) (hv : Rd W v (bv A)) :
    Calls Tryd.prog 23 #[.int .u32 id, v] W fun e w' => ∃ g c, e = .returned (.tuple #[.slice (some ⟨g, 0, none⟩) 2 c, .int .i64 0]) ∧ (∀ (W' : World) (F : Nat → Prop), Kp [] w' W' → (∀ b, F b → w'.heap.size ≤ b) → Pq W' F g (partsM mk id A)) ∧ Kp [] W w' :=
  (sp W v A k hv (by omega)).mono fun e w' ⟨v', h1, h2, h3⟩ => by
    obtain ⟨g, c, rfl, h4⟩ := h2.shape (partsM_ne mk id A)
    rw [(partsM2 ml id hA).1] at h1
    exact ⟨g, c, h1, h4, h3⟩
set_option maxRecDepth 100000 in
theorem xor_fin : ∀ x : Fin 256, 0 ≤ bits .xor .u8 (x.val : Int) 1 ∧ bits .xor .u8 (x.val : Int) 1 < 256 := by decide
theorem xor_u8 (x : Nat) (h : x < 256) : ∃ u : UInt8, Value.int .u8 (bits .xor .u8 (x : Int) 1) = bval u := by
  have h1 : 0 ≤ bits .xor .u8 (x : Int) 1 := (xor_fin ⟨x, h⟩).1
  have h2 : bits .xor .u8 (x : Int) 1 < 256 := (xor_fin ⟨x, h⟩).2
  refine ⟨UInt8.ofNat (bits .xor .u8 (x : Int) 1).toNat, ?_⟩
  unfold bval
  congr 1
  simp only [UInt8.toNat_ofNat']
  show bits .xor .u8 (x : Int) 1 = _
  have : (bits .xor .u8 (x : Int) 1).toNat < 256 := by omega
  rw [Nat.mod_eq_of_lt this]
  omega
set_option maxRecDepth 100000 in
set_option maxHeartbeats 4000000 in
theorem apart_any (mk : List UInt8 → List UInt8) (n seed at_ id : Int) (w : World) (hn : -9223372036854775808 ≤ n ∧ n ≤ 9223372036854775807) (hat : -9223372036854775808 ≤ at_ ∧ at_ ≤ 9223372036854775807) (hsd : -9223372036854775808 ≤ seed ∧ seed ≤ 9223372036854775807) (hid : 0 ≤ id ∧ id < 4294967296)
    (ml : ∀ l, (mk l).length = 8)
    (mc : ∀ W v l, Kp [] w W → Rd W v (bv l) → l.length ≤ 562949953421312 → Calls Tryd.prog 43 #[v] W fun e w' => e = .returned (.agg (bv (mk l)).toArray) ∧ Kp [] W w')
    (sp : ∀ W v l, Kp [] w W → Rd W v (bv l) → l.length ≤ 31808 → Calls Tryd.prog 23 #[.int .u32 id, v] W fun e w' => ∃ v', e = .returned (.tuple #[v', .int .i64 0]) ∧ Pts w' W.heap.size v' (partsM mk id l) ∧ Kp [] W w') :
    Calls Tryd.prog 10 #[.int .i64 n, .int .i64 seed, .int .i64 at_, .int .u32 id] w fun e w' => e = .returned (.bool true) ∧ Kp [] w w' := by
  obtain ⟨N0, hN1, hN2⟩ := fold_mod n 400 hn (by decide)
  obtain ⟨s2, hs2, hs2b⟩ : ∃ s2, wrap64 (seed + 1) = s2 ∧ -9223372036854775808 ≤ s2 ∧ s2 ≤ 9223372036854775807 := ⟨_, rfl, by unfold wrap64; omega⟩
  obtain ⟨N, hN⟩ : ∃ N : Nat, 498 + N0 = N := ⟨_, rfl⟩
  have hNb : 498 ≤ N ∧ N ≤ 897 := by omega
  have HNW : Hid (wrap64 (498 + (N0 : Int)) = (N : Int)) := Lib.hid (by unfold wrap64; omega)
  have hla := fun W => long_any N seed W (by omega) hsd
  have hlb := fun W => long_any N s2 W (by omega) hs2b
  have hal := longL_len N seed
  have hbl := longL_len N s2
  generalize longL N seed = A at *
  generalize longL N s2 = B at *
  have hA : 498 ≤ A.length ∧ A.length ≤ 897 := by rw [hal]; exact hNb
  have hBA : B.length = A.length := by rw [hal, hbl]
  have hB : 498 ≤ B.length ∧ B.length ≤ 897 := by rw [hbl]; exact hNb
  have hsa := fun W v => split2 ml sp hA W v
  have hsb := fun W v => split2 ml sp hB W v
  have HLA : Hid (∀ W, Calls Tryd.prog 22 #[.int .i64 N, .int .i64 seed] W fun e w' => ∃ a c, e = .returned (.slice a N c) ∧ Own w' W.heap.size 5 (.slice a N c) (bv A) ∧ Kp [] W w') := Lib.hid (fun W => (hla W).mono fun e w' ⟨v, h1, h2, h3⟩ => by
    obtain ⟨a, c, rfl⟩ := h2.rd.form
    rw [bv_length, hal] at h1 h2
    exact ⟨a, c, h1, h2, h3⟩)
  have HLB : Hid (∀ W, Calls Tryd.prog 22 #[.int .i64 N, .int .i64 s2] W fun e w' => ∃ a c, e = .returned (.slice a N c) ∧ Own w' W.heap.size 5 (.slice a N c) (bv B) ∧ Kp [] W w') := Lib.hid (fun W => (hlb W).mono fun e w' ⟨v, h1, h2, h3⟩ => by
    obtain ⟨a, c, rfl⟩ := h2.rd.form
    rw [bv_length, hbl] at h1 h2
    exact ⟨a, c, h1, h2, h3⟩)
  obtain ⟨_, pa0, pa1, pa2, pa3⟩ := partsM2 ml id hA
  obtain ⟨_, pb0, pb1, pb2, pb3⟩ := partsM2 ml id hB
  have e1 := ap1 ml hid.1 hid.2 hA
  have e2 := ap2 ml hid.1 hid.2 hA hBA
  have e3 := ap3 ml hid.1 hid.2 hA hBA
  have e4 := ap4 ml hid.1 hid.2 hA hBA
  have e5 := fun c => @ap5 mk ml id hid.1 hid.2 A B hA c
  have e6 := @ap6 mk ml id hid.1 hid.2 A B hA
  have e7 := ap7 ml hid.1 hid.2 hA hBA
  have e8 := @ap8 mk id A B hA
  have e9 := @ap9 mk id A B hA hBA
  have e10 : ∀ c, (partM mk id A 0).drop 15 ++ (partC mk id A c 1).drop 15 = A.take 497 ++ c := fun c => by
    rw [(partM_drop ml id A 0).1]
    have : (partC mk id A c 1).drop 15 = c := by
      show ((mk A ++ c)).drop 8 = c
      rw [List.drop_append_of_le_length (by rw [ml A]; exact Nat.le_refl _), List.drop_of_length_le (by rw [ml A]; exact Nat.le_refl _)]
      rfl
    rw [this]
    simp [contP]
  have e11 : partM mk id A 1 = partC mk id A (contP A 1) 1 := rfl
  have e12 : (contP A 1).length = N - 497 := by rw [contP_length, hal]; omega
  have e13 : ((partM mk id A 0).drop 7).take 8 = mk A := (partM_drop ml id A 0).2
  have e14 : ((partM mk id B 0).drop 7).take 8 = mk B := (partM_drop ml id B 0).2
  have hsc : ∀ W v c, c.length = N - 497 → Kp [] w W → Rd W v (bv (A.take 497 ++ c)) → Calls Tryd.prog 23 #[.int .u32 id, v] W fun e w' => ∃ (g c' : Nat) (ls : List (List UInt8)) (p0 : List UInt8), e = .returned (.tuple #[.slice (some ⟨g, 0, none⟩) 2 c', .int .i64 0]) ∧ (∀ (W' : World) (F : Nat → Prop), Kp [] w' W' → (∀ b, F b → w'.heap.size ≤ b) → Pq W' F g ls) ∧ Kp [] W w' ∧ ls[0]? = some p0 ∧ p0.length = 512 ∧ (p0.drop 7).take 8 = mk (A.take 497 ++ c) := fun W v c hc k hv => by
    have hC : 498 ≤ (A.take 497 ++ c).length ∧ (A.take 497 ++ c).length ≤ 897 := by rw [List.length_append, List.length_take, hal, hc]; omega
    exact (split2 ml sp hC W v k hv).mono fun e w' ⟨g, c', h1, h2, h3⟩ => ⟨g, c', _, _, h1, h2, h3, (partsM2 ml id hC).2.1, (partsM2 ml id hC).2.2.2.1, (partM_drop ml id _ 0).2⟩
  have e15 := fun q u => partC_set ml id A (contP A 1) q u
  obtain ⟨BC, hBC⟩ : ∃ BC : List UInt8 → List UInt8, ∀ c, partC mk id A c 1 = BC c := ⟨_, fun _ => rfl⟩
  simp only [hBC] at e5 e10 e15
  have e15' : ∀ q u, (partM mk id A 1).set (15 + q) u = BC ((contP A 1).set q u) := fun q u => by rw [e11, hBC]; exact e15 q u
  clear e15 e11 hBC
  generalize partsM mk id A = LA at *
  generalize partsM mk id B = LB at *
  generalize partM mk id A 0 = PA0 at *
  generalize partM mk id A 1 = PA1 at *
  generalize partM mk id B 0 = PB0 at *
  generalize partM mk id B 1 = PB1 at *
  generalize contP A 1 = cA1 at *
  generalize [EA mk id A bob none] = T1 at *
  generalize [EA mk id A bob none, EA mk id B eve none] = T2 at *
  generalize [EA mk id A bob (some cA1), EA mk id B eve none] = T3 at *
  generalize [EA mk id A bob (some cA1), EA mk id B eve (some (contP B 1))] = T4 at *
  generalize [EA mk id B eve (some (contP B 1))] = T5 at *
  generalize A.take 497 = A0 at *
  have E1 := Lib.hid e1
  have E2 := Lib.hid e2
  have E3 := Lib.hid e3
  have E4 := Lib.hid e4
  have E5 := Lib.hid e5
  have E6 := Lib.hid e6
  have E7 := Lib.hid e7
  have E8 := Lib.hid e8
  have E9 := Lib.hid e9
  have E10 := Lib.hid e10
  have E12 := Lib.hid e12
  have E13 := Lib.hid e13
  have E14 := Lib.hid e14
  have E15 := Lib.hid e15'
  have PA := Lib.hid (And.intro pa0 (And.intro pa1 (And.intro pa2 pa3)))
  have PB := Lib.hid (And.intro pb0 (And.intro pb1 (And.intro pb2 pb3)))
  have HSA := Lib.hid hsa
  have HSB := Lib.hid hsb
  have HSC := Lib.hid hsc
  have HAL := Lib.hid hal
  have HBL := Lib.hid hbl
  have HN1 := Lib.hid hN1
  have HS2 := Lib.hid hs2
  have HML := Lib.hid ml
  have HMC := Lib.hid mc
  have HID := Lib.hid hid
  have HAT := Lib.hid hat
  have HNB := Lib.hid hNb
  clear e1 e2 e3 e4 e5 e6 e7 e8 e9 e10 e12 e13 e14 e15' pa0 pa1 pa2 pa3 pb0 pb1 pb2 pb3 hsa hsb hsc hal hbl hN1 hs2 hs2b ml mc hid hat sp hA hB hBA hla hlb hsd hN hN2 hNb
  obtain ⟨hn0, hn1⟩ := hn
  go_enter Tryd.func10, Tryd.ntmps10
  go_upto_region 2 with fail
  rw [HN1.out, HNW.out]
  generalize (if n < wrap64 (-wrap64 (n + 1)) then wrap64 (-wrap64 (n + 1)) else n) = fx at *
  generalize wrap64 (-wrap64 (n + 1)) = fy at *
  generalize wrap64 (n + 1) = fz at *
  clear HNW HN1 hn0 hn1
  go_upto_region 7 with (first
    | (go_at_call 22; rw [HS2.out]; (with_reducible refine (HLB.out _).mono ?_); rintro e w3 ⟨ab, cb, rfl, ho3, hk3⟩; have HO3 := Lib.hid ho3; have HK3 := Lib.hid (HK2.out.trans0 hk3); have HPA3 := Lib.hid hk3; clear ho3 hk3)
    | (go_at_call 22; go_must (refine (HLA.out _).mono ?_; rintro e w1 ⟨aa, ca, rfl, ho1, hk1⟩; have HO1 := Lib.hid ho1; have HK1 := Lib.hid hk1; clear ho1 hk1))
    | (go_at_call 23; (with_reducible refine (HSB.out _ _ HK3.out HO3.out.rd).mono ?_); rintro e w4 ⟨gb, pb, rfl, hpq4, hk4⟩; have HPQB := Lib.hid hpq4; have HK4 := Lib.hid (HK3.out.trans0 hk4); have HPA4 := Lib.hid (HPA3.out.trans0 hk4); clear hk4 hpq4)
    | (go_at_call 23; go_must (refine (HSA.out _ _ HK1.out HO1.out.rd).mono ?_; rintro e w2 ⟨ga, pa, rfl, hpq2, hk2⟩; have HPQA := Lib.hid hpq2; have HK2 := Lib.hid (HK1.out.trans0 hk2); clear hk2 hpq2))
    | (go_at_call 25; go_must (refine (new1_any 2 _ (by decide) (by decide)).mono ?_; rintro e w5 ⟨t, F, rfl, htr5, hf5, hk5⟩; have HX5 : Hid (LX w w5 F t 2 [] [(ga, LA), (gb, LB)] []) := Lib.hid ⟨HK4.out.trans0 hk5, htr5, (fun p hp => by (rcases List.mem_cons.1 hp with rfl | hp; exact HPQA.out _ _ (HPA4.out.trans0 hk5) (fun b hb => Nat.le_trans HPA4.out.size (hf5 b hb)); rw [List.mem_singleton] at hp; subst hp; exact HPQB.out _ _ hk5 hf5)), (by simp), (fun b hb => Nat.le_trans HK4.out.size (hf5 b hb))⟩; clear htr5 hf5 hk5; obtain ⟨qa0, ra0, hca0, hra0⟩ := (HX5.out.pq (ga, LA) (by simp)).at PA.out.1; obtain ⟨qb0, rb0, hcb0, hrb0⟩ := (HX5.out.pq (gb, LB) (by simp)).at PB.out.1; have HRa0 := Lib.hid hra0.r; have HRb0 := Lib.hid hrb0.r; clear hra0 hrb0; rw [PA.out.2.2.1] at hca0 HRa0; rw [PB.out.2.2.1] at hcb0 HRb0))
    | fail)
  -- WALK
  obtain ⟨s7, n7, c7, hs7, hr7⟩ := run_subb_lh el_byt HRa0.out 7 15 (by decide) (by decide) (by decide)
  obtain ⟨s8, n8, c8, hs8, hr8⟩ := run_subb_lh el_byt HRb0.out 7 15 (by decide) (by decide) (by decide)
  have t7 : (PA0.take (15 : Int).toNat).drop (7 : Int).toNat = mk A := by rw [← E13.out, show (15 : Int).toNat = 15 from rfl, show (7 : Int).toNat = 7 from rfl, List.drop_take]
  have t8 : (PB0.take (15 : Int).toNat).drop (7 : Int).toNat = mk B := by rw [← E14.out, show (15 : Int).toNat = 15 from rfl, show (7 : Int).toNat = 7 from rfl, List.drop_take]
  rw [t7] at hr7
  rw [t8] at hr8
  have hcv7 : ∀ n, (convert 27 9 (.slice s7 n7 c7)).run Tryd.prog (w5.drewN n) = .ok (.string (strOf (mk A))) (w5.drewN n) := fun n => run_str Tryd.underlying27 Tryd.underlying5 Tryd.underlying9 (hr7.kp0 ((Kp.refl [] w5).drewN n))
  have hcv8 : ∀ n, (convert 27 9 (.slice s8 n8 c8)).run Tryd.prog (w5.drewN n) = .ok (.string (strOf (mk B))) (w5.drewN n) := fun n => run_str Tryd.underlying27 Tryd.underlying5 Tryd.underlying9 (hr8.kp0 ((Kp.refl [] w5).drewN n))
  have hbq := strOf_beq (mk A) (mk B)
  generalize strOf (mk A) = sA at *
  generalize strOf (mk B) = sB at *
  have HBQ := Lib.hid hbq
  clear hbq hr7 hr8 t7 t8
  by_cases hmk : mk A = mk B
  · have hb : (sA.toList == sB.toList) = true := by rw [HBQ.out]; simp [hmk]
    clear hmk
    go_quiet (fail)
    go_wp2_with fail
    go_ret
    exact ⟨rfl, HX5.out.k.drewN nq⟩
  · have hb : (sA.toList == sB.toList) = false := by rw [HBQ.out]; simp [hmk]
    have HMK := Lib.hid hmk
    clear hmk
    go_quiet (fail)
    have HX6 := Lib.hid (HX5.out.kp0 ((Kp.refl [] w5).drewN nq))
    have HRa6 := Lib.hid (HRa0.out.kp0 ((Kp.refl [] w5).drewN nq))
    have ca6 : (w5.drewN nq).cell? ⟨ga, 0, none⟩ = some (.slice qa0 512 ra0) := hca0
    clear hca0 hcb0 hs7 hs8 hcv7 hcv8 hb HRa0 HRb0 HX5 HBQ
    generalize w5.drewN nq = w6 at *
    obtain ⟨M, hM⟩ : ∃ M : Nat, PA1.length = M := ⟨_, rfl⟩
    have HM := Lib.hid hM
    have HMB : Hid (16 ≤ M ∧ M ≤ 415 ∧ M = N - 482 ∧ PB1.length = M) := Lib.hid (by have h1 := PA.out.2.2.2; have h2 := PB.out.2.2.2; have h3 := HNB.out; rw [HAL.out] at h1; rw [HBL.out] at h2; omega)
    clear hM
    have A1 : Hid (∀ W F P R, LX w W F t 2 [] P R → ∀ a c, Rd W (.slice a 512 c) (bv PA0) → Calls Tryd.prog 26 #[.pointer (some ⟨t, 0, none⟩), .string ⟨#[98, 111, 98]⟩, .slice a 512 c] W fun e w' => e = .returned (.tuple #[.int .u32 id, .bool false, .int .i64 0]) ∧ LX w w' (Fn F W w') t 2 T1 P R ∧ ∃ L, (∀ b ∈ L, F b) ∧ Kp L W w') := Lib.hid (fun W F P R h a c hv => lx_add HML.out HMC.out h (by decide) hv (by have h1 := hv.len; rw [bv_length] at h1; have := HNB.out; omega) (E1.out))
    have A2 : Hid (∀ W F P R, LX w W F t 2 T1 P R → ∀ a c, Rd W (.slice a 512 c) (bv PB0) → Calls Tryd.prog 26 #[.pointer (some ⟨t, 0, none⟩), .string ⟨#[101, 118, 101]⟩, .slice a 512 c] W fun e w' => e = .returned (.tuple #[.int .u32 id, .bool false, .int .i64 0]) ∧ LX w w' (Fn F W w') t 2 T2 P R ∧ ∃ L, (∀ b ∈ L, F b) ∧ Kp L W w') := Lib.hid (fun W F P R h a c hv => lx_add HML.out HMC.out h (by decide) hv (by have h1 := hv.len; rw [bv_length] at h1; have := HNB.out; omega) (E2.out))
    have A3 : Hid (∀ W F P R, LX w W F t 2 T2 P R → ∀ a c, Rd W (.slice a 512 c) (bv PB0) → Calls Tryd.prog 26 #[.pointer (some ⟨t, 0, none⟩), .string ⟨#[106, 111, 101]⟩, .slice a 512 c] W fun e w' => e = .returned (.tuple #[.int .u32 0, .bool false, .int .i64 120]) ∧ LX w w' (Fn F W w') t 2 T2 P R ∧ ∃ L, (∀ b ∈ L, F b) ∧ Kp L W w') := Lib.hid (fun W F P R h a c hv => lx_add HML.out HMC.out h (by decide) hv (by have h1 := hv.len; rw [bv_length] at h1; have := HNB.out; omega) (E3.out))
    have A4 : Hid (∀ W F P R, LX w W F t 2 T2 P R → ∀ a c, Rd W (.slice a M c) (bv PB1) → Calls Tryd.prog 26 #[.pointer (some ⟨t, 0, none⟩), .string ⟨#[98, 111, 98]⟩, .slice a M c] W fun e w' => e = .returned (.tuple #[.int .u32 0, .bool false, .int .i64 260]) ∧ LX w w' (Fn F W w') t 2 T2 P R ∧ ∃ L, (∀ b ∈ L, F b) ∧ Kp L W w') := Lib.hid (fun W F P R h a c hv => lx_add HML.out HMC.out h (by decide) hv (by have h1 := hv.len; rw [bv_length] at h1; have := HMB.out; omega) (E4.out HMK.out))
    go_upto_region 15 with (first
      | (go_at_call 26; (with_reducible refine (A4.out _ _ _ _ HX9.out _ _ HRb9.out).mono ?_); rintro e w10 ⟨rfl, hxw10, Lw10, hLw10, hkw10⟩; have HX10 := Lib.hid hxw10; obtain ⟨qa10, ra10, hca10, hra10⟩ := (HX10.out.pq (ga, LA) (by simp)).at PA.out.2.1; have HRa10 := Lib.hid hra10.r; clear hra10; rw [HM.out] at hca10 HRa10; clear hcb9; clear hxw10 hLw10 hkw10)
      | (go_at_call 26; (with_reducible refine (A3.out _ _ _ _ HX8.out _ _ HRb8.out).mono ?_); rintro e w9 ⟨rfl, hxw9, Lw9, hLw9, hkw9⟩; have HX9 := Lib.hid hxw9; obtain ⟨qb9, rb9, hcb9, hrb9⟩ := (HX9.out.pq (gb, LB) (by simp)).at PB.out.2.1; have HRb9 := Lib.hid hrb9.r; clear hrb9; rw [HMB.out.2.2.2] at hcb9 HRb9; clear hcb8; clear hxw9 hLw9 hkw9)
      | (go_at_call 26; (with_reducible refine (A2.out _ _ _ _ HX7.out _ _ HRb7.out).mono ?_); rintro e w8 ⟨rfl, hxw8, Lw8, hLw8, hkw8⟩; have HX8 := Lib.hid hxw8; obtain ⟨qb8, rb8, hcb8, hrb8⟩ := (HX8.out.pq (gb, LB) (by simp)).at PB.out.1; have HRb8 := Lib.hid hrb8.r; clear hrb8; rw [PB.out.2.2.1] at hcb8 HRb8; clear hcb7; clear hxw8 hLw8 hkw8)
      | (go_at_call 26; go_must (refine (A1.out _ _ _ _ HX6.out _ _ HRa6.out).mono ?_; rintro e w7 ⟨rfl, hxw7, Lw7, hLw7, hkw7⟩; have HX7 := Lib.hid hxw7; obtain ⟨qb7, rb7, hcb7, hrb7⟩ := (HX7.out.pq (gb, LB) (by simp)).at PB.out.1; have HRb7 := Lib.hid hrb7.r; clear hrb7; rw [PB.out.2.2.1] at hcb7 HRb7; clear ca6; clear hxw7 hLw7 hkw7))
      | fail)
    have hca10x : (w10.alloc (.cells #[] 5)).cell? ⟨ga, 1, none⟩ = some (.slice qa10 M ra10) := ((Kp.refl [] w10).alloc (.cells #[] 5)).cell_some hca10 (by simp)
    go_upto_region 16 with (first
      | (at_builtin; go_must (refine wpl_append el_u8 rfl _ _ rfl rfl rfl (Own.lit w10 5 #[] (Nat.le_refl _) (by simp)) (HRa10.out.kp0 ((Kp.refl [] w10).alloc _)) (bv_oneCell _) (by rw [bv_length, HM.out]; have := HMB.out; simp; omega) (by rw [bv_length, HM.out]; have := HMB.out; simp; omega) (by simp) ?_; intro v11 w11 ho11 hg11; have hk11 : Kp [] w10 w11 := ((Kp.refl [] w10).alloc _).grown hg11 (fun b hb => by cases hb; exact .inr (Nat.le_refl _)); have HK11 := Lib.hid hk11; have HO11 : Hid (Own w11 w10.heap.size 5 v11 (bv PA1)) := Lib.hid (by simpa using ho11); clear ho11 hg11 hk11))
      | fail)
    obtain ⟨a11, c11, hv11⟩ := HO11.out.rd.form
    rw [bv_length, HM.out] at hv11
    subst hv11
    obtain ⟨q, hq, hqb⟩ := fold_mod at_ ((M : Int) - 15) HAT.out (by have := HMB.out; omega)
    have hM1 : 16 ≤ M := HMB.out.1
    have hM2 : M ≤ 415 := HMB.out.2.1
    have hqk : 15 + q < PA1.length := by rw [HM.out]; omega
    obtain ⟨g11, hg11, hc11, hf11, hb11, hl11, ho11⟩ := HO11.out.slot hqk
    subst hg11
    have HOS := Lib.hid ho11
    have HB11 := Lib.hid (And.intro hb11 hl11)
    obtain ⟨x0, hxe, hx0⟩ : ∃ x : Nat, (PA1[15 + q]).toNat = x ∧ x < 256 := ⟨_, rfl, (PA1[15 + q]).toNat_lt⟩
    rw [hxe] at hc11
    clear hxe
    clear ho11 hqk hca10 hca10x hb11 hl11
    go_upto_region 17 with fail
    obtain ⟨u, hu⟩ := xor_u8 x0 hx0
    rw [hu]
    have hbad : Hid (Own (w11.setCell ⟨g11, 15 + q, none⟩ (bval u)) w10.heap.size 5 (.slice (some ⟨g11, 0, none⟩) M c11) (bv (BC (cA1.set q u)))) := Lib.hid (by rw [← E15.out]; exact HOS.out u)
    obtain ⟨d, hd, hdl⟩ : ∃ d, cA1.set q u = d ∧ d.length = cA1.length := ⟨_, rfl, List.length_set⟩
    rw [hd] at hbad
    have HK12 : Hid (Kp [] w10 (w11.setCell ⟨g11, 15 + q, none⟩ (bval u))) := Lib.hid (HK11.out.setCell (.inr HB11.out.1) _)
    have HSZ : Hid (w10.heap.size ≤ (w11.setCell ⟨g11, 15 + q, none⟩ (bval u)).heap.size) := Lib.hid HK12.out.size
    obtain ⟨q12, r12, hc12, hr12⟩ := ((HX10.out.kp0 HK12.out).pq (ga, LA) (by simp)).at PA.out.1
    rw [PA.out.2.2.1] at hc12 hr12
    have HX12 := Lib.hid (HX10.out.kp0 HK12.out)
    have HR12 := Lib.hid hr12.r
    have HDL := Lib.hid (hdl.trans E12.out)
    have HDM := Lib.hid hdl
    have hNx := HNB.out
    have hDx := HDL.out
    clear hd hdl hc11 hf11 HOS HK11 HB11 HO11 HX10 hr12 hu hx0
    generalize w11.setCell ⟨g11, 15 + q, none⟩ (bval u) = w12 at *
    generalize w10.heap.size = B12 at *
    refine wp_region_noPanic ?_
    refine wp_region_held_drew (S := fun W => Kp [] w12 W) (by kernel_rfl) ((Kp.refl [] w12).drew) (fun hHeld => ?_)
    generalize w12.drew = w13 at *
    refine wpAnyH_take (i := 0) (oi := { dst := some 192, op := Op.move (Operand.tmp 3), type := 48, pos := "law.go:179", after := #[], guard := none }) (v := .int .u32 id) rfl (by kernel_rfl) (by kernel_rfl) (by kernel_rfl) (fun _ _ _ h => h) (Or.inl ⟨by rfl, by intro w hSw; (try dsimp only at hSw); go_simp⟩) (by assumption) ?_
    try simp only [Act.put, List.setIfInBounds_toArray, List.set_cons_zero, List.set_cons_succ]
    refine wpAnyH_take (i := 2) (oi := { dst := some 194, op := Op.move (Operand.tmp 9), type := 50, pos := "law.go:179", after := #[], guard := none }) (v := .slice (some ⟨ga, 0, none⟩) 2 pa) rfl (by kernel_rfl) (by kernel_rfl) (by kernel_rfl) (fun _ _ _ h => h) (Or.inl ⟨by rfl, by intro w hSw; (try dsimp only at hSw); go_simp⟩) (by assumption) ?_
    try simp only [Act.put, List.setIfInBounds_toArray, List.set_cons_zero, List.set_cons_succ]
    refine wpAnyH_take (i := 3) (oi := { dst := some 195, op := Op.indexAddr 50 (Operand.tmp 194) (Operand.const (Value.int IntKind.i64 0)), type := 0, pos := "law.go:179", after := #[{ on := 2, ground := Ground.data }], guard := none }) (v := .pointer (some ⟨ga, 0, none⟩)) rfl (by kernel_rfl) (by kernel_rfl) (by kernel_rfl) (fun _ _ _ h => h) (Or.inl ⟨by rfl, by intro w hSw; (try dsimp only at hSw); go_simp⟩) (by assumption) ?_
    try simp only [Act.put, List.setIfInBounds_toArray, List.set_cons_zero, List.set_cons_succ]
    refine wpAnyH_take (i := 4) (oi := { dst := some 196, op := Op.load 27 (Operand.tmp 195), type := 27, pos := "law.go:179", after := #[{ on := 3, ground := Ground.data }], guard := none }) (v := .slice q12 512 r12) rfl (by kernel_rfl) (by kernel_rfl) (by kernel_rfl) (fun _ _ _ h => h) (Or.inl ⟨by rfl, by intro w hSw; (try dsimp only at hSw); have hcx := hSw.cell_some hc12 (by simp); go_simp⟩) (by assumption) ?_
    try simp only [Act.put, List.setIfInBounds_toArray, List.set_cons_zero, List.set_cons_succ]
    obtain ⟨s13, n13, c13, hs13, hr13⟩ := run_subb_l el_byt HR12.out 15 (by decide) (by decide)
    refine wpAnyH_take (i := 5) (oi := { dst := some 197, op := Op.slice 27 (Operand.tmp 196) (some (Operand.const (Value.int IntKind.i64 15))) none none, type := 27, pos := "law.go:179", after := #[{ on := 4, ground := Ground.data }], guard := none }) (v := .slice s13 n13 c13) rfl (by kernel_rfl) (by kernel_rfl) (by kernel_rfl) (fun _ _ _ h => h) (Or.inl ⟨by rfl, by intro w hSw; (try dsimp only at hSw); go_simp⟩) (by assumption) ?_
    try simp only [Act.put, List.setIfInBounds_toArray, List.set_cons_zero, List.set_cons_succ]
    obtain ⟨s14, n14, c14, hs14, hr14⟩ := run_subb_l el_byt hbad.out.rd 15 (by decide) (by have := HMB.out.1; omega)
    refine wpAnyH_take (i := 7) (oi := { dst := some 199, op := Op.move (Operand.tmp 27), type := 27, pos := "law.go:179", after := #[], guard := none }) (v := .slice (some ⟨g11, 0, none⟩) M c11) rfl (by kernel_rfl) (by kernel_rfl) (by kernel_rfl) (fun _ _ _ h => h) (Or.inl ⟨by rfl, by intro w hSw; (try dsimp only at hSw); go_simp⟩) (by assumption) ?_
    try simp only [Act.put, List.setIfInBounds_toArray, List.set_cons_zero, List.set_cons_succ]
    refine wpAnyH_take (i := 8) (oi := { dst := some 200, op := Op.slice 27 (Operand.tmp 199) (some (Operand.const (Value.int IntKind.i64 15))) none none, type := 27, pos := "law.go:179", after := #[{ on := 7, ground := Ground.data }], guard := none }) (v := .slice s14 n14 c14) rfl (by kernel_rfl) (by kernel_rfl) (by kernel_rfl) (fun _ _ _ h => h) (Or.inl ⟨by rfl, by intro w hSw; (try dsimp only at hSw); go_simp⟩) (by assumption) ?_
    try simp only [Act.put, List.setIfInBounds_toArray, List.set_cons_zero, List.set_cons_succ]
    refine wpAnyH_ready (rs := [1]) (by kernel_rfl) (by simp) ?_
    refine AllReadyH.cons (o := { dst := some 193, op := Op.buildSlice 27 0 #[], type := 27, pos := "law.go:179", after := #[], guard := none }) rfl (fun K' hK => ?_) AllReadyH.nil
    go_simp
    have hk14 := hHeld.alloc (.cells #[] 5)
    have ho14 : Own (w13.alloc (.cells #[] 5)) w13.heap.size 5 (.slice (some ⟨w13.heap.size, 0, none⟩) 0 0) (bv []) := Own.lit w13 5 #[] (Nat.le_refl _) (by simp)
    have hB14 : w13.heap.size ≤ (w13.alloc (.cells #[] 5)).heap.size := ((Kp.refl [] w13).alloc _).size
    have hB13 := hHeld.size
    (try go_simp)
    refine hK.out _ _ (hk14) (fun hHeld => ?_)
    clear hK K'
    try simp only [Act.put, List.setIfInBounds_toArray, List.set_cons_zero, List.set_cons_succ]
    refine wpAnyH_ready (rs := [6]) (by kernel_rfl) (by simp) ?_
    refine AllReadyH.cons (o := { dst := some 198, op := Op.call { callee := Callee.builtin Builtin.append, args := #[Operand.tmp 193, Operand.tmp 197], argTypes := #[27, 27] }, type := 27, pos := "law.go:179", after := #[{ on := 1, ground := Ground.data }, { on := 5, ground := Ground.data }], guard := none }) rfl (fun K' hK => ?_) AllReadyH.nil
    generalize w13.alloc (.cells #[] 5) = w14 at *
    clear hHeld
    have hlA : (bv (PA0.drop (15 : Int).toNat)).length = 497 := by rw [bv_length, List.length_drop, PA.out.2.2.1]; rfl
    refine op_append (v := .slice (some ⟨w13.heap.size, 0, none⟩) 0 0) el_u8 _ _ rfl rfl rfl ho14 (hr13.kp0 hk14) (bv_oneCell _) (by show 0 + _ ≤ _; rw [hlA]; decide) (by show (0 + _) * 1 ≤ _; rw [hlA]; decide) hB14 ?_
    intro v15 w15 ho15 hg15
    have hk15 : Kp [] w12 w15 := hk14.grown hg15 (fun k hk => by cases hk; exact .inr hB13)
    have hB15 : w13.heap.size ≤ w15.heap.size := Nat.le_trans hB14 (hg15.size)
    clear hg15 ho14 hk14 hB14
    (try go_simp)
    refine hK.out _ _ (hk15) (fun hHeld => ?_)
    clear hK K'
    try simp only [Act.put, List.setIfInBounds_toArray, List.set_cons_zero, List.set_cons_succ]
    refine wpAnyH_ready (rs := [9]) (by kernel_rfl) (by simp) ?_
    refine AllReadyH.cons (o := { dst := some 201, op := Op.call { callee := Callee.builtin Builtin.append, args := #[Operand.tmp 198, Operand.tmp 200], argTypes := #[27, 27] }, type := 27, pos := "law.go:179", after := #[{ on := 6, ground := Ground.data }, { on := 8, ground := Ground.data }, { on := 6, ground := Ground.chain }], guard := none }) rfl (fun K' hK => ?_) AllReadyH.nil
    have hln := hbad.out.rd.len
    have hl2 : (bv [] ++ bv (PA0.drop (15 : Int).toNat)).length + (bv ((BC d).drop (15 : Int).toNat)).length ≤ 1000 := by rw [List.length_append, hlA, bv_length, bv_length, List.length_drop]; rw [bv_length] at hln; have := HMB.out.2.1; simp only [List.length_nil]; omega
    clear hHeld
    refine op_append (v := v15) el_u8 _ _ rfl rfl rfl ho15 (hr14.kp0 hk15) (bv_oneCell _) (Nat.le_trans hl2 (by decide)) (by rw [Nat.mul_one]; exact Nat.le_trans hl2 (by decide)) hB15 ?_
    intro v16 w16 ho16 hg16
    rw [← bv_append, ← bv_append, List.nil_append, show (15 : Int).toNat = 15 from rfl, E10.out] at ho16
    have hk16 : Kp [] w12 w16 := hk15.grown hg16 (fun k hk => .inr (Nat.le_trans hB13 (ho15.lt hk).1))
    clear hg16 hl2 hln ho15 hk15
    (try go_simp)
    refine hK.out _ _ (hk16) (fun hHeld => ?_)
    clear hK K'
    try simp only [Act.put, List.setIfInBounds_toArray, List.set_cons_zero, List.set_cons_succ]
    refine wpAnyH_ready (rs := [10]) (by kernel_rfl) (by simp) ?_
    refine AllReadyH.cons (o := { dst := some 202, op := Op.call { callee := Callee.value (Operand.func 23), args := #[Operand.tmp 192, Operand.tmp 201], argTypes := #[48, 27] }, type := 51, pos := "law.go:179", after := #[{ on := 0, ground := Ground.data }, { on := 9, ground := Ground.data }, { on := 9, ground := Ground.chain }], guard := none }) rfl (fun K' hK => ?_) AllReadyH.nil
    go_simp
    refine (HSC.out w16 v16 d HDL.out (HX12.out.k.trans0 hk16) ho16.rd).mono ?_
    rintro e w17 ⟨g17, c17, ls, p0, rfl, hpq17, hkc17, hls, hp0, hmk17⟩
    have hk17 : Kp [] w12 w17 := hk16.trans0 hkc17
    clear hHeld ho16 hk16
    (try go_simp)
    refine hK.out _ _ (hk17) (fun hHeld => ?_)
    clear hK K'
    try simp only [Act.put, List.setIfInBounds_toArray, List.set_cons_zero, List.set_cons_succ]
    refine wpAnyH_take (i := 11) (oi := { dst := some 191, op := Op.move (Operand.tmp 202), type := 51, pos := "law.go:179", after := #[{ on := 10, ground := Ground.data }], guard := none }) (v := .tuple #[.slice (some ⟨g17, 0, none⟩) 2 c17, .int .i64 0]) rfl (by kernel_rfl) (by kernel_rfl) (by kernel_rfl) (fun _ _ _ h => h) (Or.inl ⟨by rfl, by intro w hSw; (try dsimp only at hSw); go_simp⟩) (by assumption) ?_
    try simp only [Act.put, List.setIfInBounds_toArray, List.set_cons_zero, List.set_cons_succ]
    refine wpAnyH_take (i := 12) (oi := { dst := some 203, op := Op.extract (Operand.tmp 191) 0, type := 50, pos := "law.go:179", after := #[{ on := 11, ground := Ground.data }], guard := none }) (v := .slice (some ⟨g17, 0, none⟩) 2 c17) rfl (by kernel_rfl) (by kernel_rfl) (by kernel_rfl) (fun _ _ _ h => h) (Or.inl ⟨by rfl, by intro w hSw; (try dsimp only at hSw); go_simp⟩) (by assumption) ?_
    try simp only [Act.put, List.setIfInBounds_toArray, List.set_cons_zero, List.set_cons_succ]
    refine wpAnyH_take (i := 13) (oi := { dst := some 204, op := Op.extract (Operand.tmp 191) 1, type := 28, pos := "law.go:179", after := #[{ on := 11, ground := Ground.data }, { on := 14, ground := Ground.gcOnly Departure.lateStores }], guard := none }) (v := .int .i64 0) rfl (by kernel_rfl) (by kernel_rfl) (by kernel_rfl) (fun _ _ _ h => h) (Or.inl ⟨by rfl, by intro w hSw; (try dsimp only at hSw); go_simp⟩) (by assumption) ?_
    try simp only [Act.put, List.setIfInBounds_toArray, List.set_cons_zero, List.set_cons_succ]
    refine wpAnyH_take (i := 14) (oi := { dst := some 28, op := Op.assign (Operand.tmp 203), type := 50, pos := "law.go:179", after := #[{ on := 12, ground := Ground.data }, { on := 10, ground := Ground.chain }, { on := 0, ground := Ground.phase }, { on := 1, ground := Ground.phase }, { on := 2, ground := Ground.phase }, { on := 3, ground := Ground.phase }, { on := 4, ground := Ground.phase }, { on := 5, ground := Ground.phase }, { on := 6, ground := Ground.phase }, { on := 7, ground := Ground.phase }, { on := 8, ground := Ground.phase }, { on := 9, ground := Ground.phase }, { on := 10, ground := Ground.phase }, { on := 11, ground := Ground.phase }, { on := 12, ground := Ground.phase }, { on := 13, ground := Ground.textOnly Departure.lateStores }], guard := none }) (v := .slice (some ⟨g17, 0, none⟩) 2 c17) rfl (by kernel_rfl) (by kernel_rfl) (by kernel_rfl) (fun _ _ _ h => h) (Or.inl ⟨by rfl, by intro w hSw; (try dsimp only at hSw); go_simp⟩) (by assumption) ?_
    try simp only [Act.put, List.setIfInBounds_toArray, List.set_cons_zero, List.set_cons_succ]
    refine wpAnyH_take (i := 15) (oi := { dst := some 29, op := Op.assign (Operand.tmp 204), type := 28, pos := "law.go:179", after := #[{ on := 13, ground := Ground.data }, { on := 14, ground := Ground.chain }, { on := 0, ground := Ground.phase }, { on := 1, ground := Ground.phase }, { on := 2, ground := Ground.phase }, { on := 3, ground := Ground.phase }, { on := 4, ground := Ground.phase }, { on := 5, ground := Ground.phase }, { on := 6, ground := Ground.phase }, { on := 7, ground := Ground.phase }, { on := 8, ground := Ground.phase }, { on := 9, ground := Ground.phase }, { on := 10, ground := Ground.phase }, { on := 11, ground := Ground.phase }, { on := 12, ground := Ground.phase }, { on := 13, ground := Ground.phase }, { on := 14, ground := Ground.phase }], guard := none }) (v := .int .i64 0) rfl (by kernel_rfl) (by kernel_rfl) (by kernel_rfl) (fun _ _ _ h => h) (Or.inl ⟨by rfl, by intro w hSw; (try dsimp only at hSw); go_simp⟩) (by assumption) ?_
    try simp only [Act.put, List.setIfInBounds_toArray, List.set_cons_zero, List.set_cons_succ]
    refine wpAnyH_done (by kernel_rfl) ?_ _
    refine NoPanic.normal ?_
    obtain ⟨q17, r17, hc17, hr17⟩ := (hpq17 w17 (fun _ => False) (Kp.refl [] w17) (fun b hb => hb.elim)).at hls
    rw [hp0] at hc17 hr17
    have HX17 := Lib.hid (HX12.out.kp0 hk17)
    have HBD17 := Lib.hid (hbad.out.rd.kp0 hk17)
    obtain ⟨qa17, ra17, hca17, hra17⟩ := (HX17.out.pq (ga, LA) (by simp)).at PA.out.1
    rw [PA.out.2.2.1] at hca17 hra17
    obtain ⟨s18, n18, c18, hs18, hr18⟩ := run_subb_lh el_byt hr17.r 7 15 (by decide) (by decide) (by decide)
    obtain ⟨s19, n19, c19, hs19, hr19⟩ := run_subb_lh el_byt hra17.r 7 15 (by decide) (by decide) (by decide)
    have t18 : (p0.take (15 : Int).toNat).drop (7 : Int).toNat = mk (A0 ++ d) := by rw [← hmk17, show (15 : Int).toNat = 15 from rfl, show (7 : Int).toNat = 7 from rfl, List.drop_take]
    have t19 : (PA0.take (15 : Int).toNat).drop (7 : Int).toNat = mk A := by rw [← E13.out, show (15 : Int).toNat = 15 from rfl, show (7 : Int).toNat = 7 from rfl, List.drop_take]
    rw [t18] at hr18
    rw [t19] at hr19
    have hcv18 : ∀ n, (convert 27 9 (.slice s18 n18 c18)).run Tryd.prog (w17.drewN n) = .ok (.string (strOf (mk (A0 ++ d)))) (w17.drewN n) := fun n => run_str Tryd.underlying27 Tryd.underlying5 Tryd.underlying9 (hr18.kp0 ((Kp.refl [] w17).drewN n))
    have hcv19 : ∀ n, (convert 27 9 (.slice s19 n19 c19)).run Tryd.prog (w17.drewN n) = .ok (.string (strOf (mk A))) (w17.drewN n) := fun n => run_str Tryd.underlying27 Tryd.underlying5 Tryd.underlying9 (hr19.kp0 ((Kp.refl [] w17).drewN n))
    have hbq := strOf_beq (mk (A0 ++ d)) (mk A)
    generalize strOf (mk (A0 ++ d)) = sC at *
    generalize strOf (mk A) = sA2 at *
    have HBQ := Lib.hid hbq
    clear hbq hr18 hr19 t18 t19 hpq17 hkc17 hls hp0 hmk17 hk17 hHeld hr17 hra17 hr13 hr14 hs13 hs14 hc12 HX12 HR12 hbad hNx hDx hB13 hlA
    go_upto_region 20 with fail
    by_cases hmk : mk (A0 ++ d) = mk A
    · have hb : (sC.toList == sA2.toList) = true := by rw [HBQ.out]; simp [hmk]
      clear hmk
      go_quiet (fail)
      go_wp2_with fail
      all_goals (go_ret; exact ⟨rfl, HX17.out.k.drewN nq⟩)
    · have hb : (sC.toList == sA2.toList) = false := by rw [HBQ.out]; simp [hmk]
      have HMC2 := Lib.hid hmk
      clear hmk
      go_quiet (fail)
      have HX20 := Lib.hid (HX17.out.kp0 ((Kp.refl [] w17).drewN nq))
      have HBD20 := Lib.hid (HBD17.out.kp0 ((Kp.refl [] w17).drewN nq))
      clear hb hcv18 hcv19 hs18 hs19 HBQ hc17 hca17 HX17 HBD17
      generalize w17.drewN nq = w20 at *
      have A5 : Hid (∀ W F P R, LX w W F t 2 T2 P R → ∀ a c, Rd W (.slice a M c) (bv (BC d)) → Calls Tryd.prog 26 #[.pointer (some ⟨t, 0, none⟩), .string ⟨#[98, 111, 98]⟩, .slice a M c] W fun e w' => e = .returned (.tuple #[.int .u32 0, .bool false, .int .i64 101]) ∧ LX w w' (Fn F W w') t 2 T2 P R ∧ ∃ L, (∀ b ∈ L, F b) ∧ Kp L W w') := Lib.hid (fun W F P R h a c hv => lx_add HML.out HMC.out h (by decide) hv (by have h1 := hv.len; rw [bv_length] at h1; have := HMB.out; omega) (E5.out d HDM.out HMC2.out))
      have A6 : Hid (∀ W F P R, LX w W F t 2 T2 P R → ∀ a c, Rd W (.slice a M c) (bv PA1) → Calls Tryd.prog 26 #[.pointer (some ⟨t, 0, none⟩), .string ⟨#[98, 111, 98]⟩, .slice a M c] W fun e w' => e = .returned (.tuple #[.int .u32 id, .bool true, .int .i64 0]) ∧ LX w w' (Fn F W w') t 2 T3 P R ∧ ∃ L, (∀ b ∈ L, F b) ∧ Kp L W w') := Lib.hid (fun W F P R h a c hv => lx_add HML.out HMC.out h (by decide) hv (by have h1 := hv.len; rw [bv_length] at h1; have := HMB.out; omega) (E6.out))
      have A7 : Hid (∀ W F P R, LX w W F t 2 T3 P R → ∀ a c, Rd W (.slice a M c) (bv PB1) → Calls Tryd.prog 26 #[.pointer (some ⟨t, 0, none⟩), .string ⟨#[101, 118, 101]⟩, .slice a M c] W fun e w' => e = .returned (.tuple #[.int .u32 id, .bool true, .int .i64 0]) ∧ LX w w' (Fn F W w') t 2 T4 P R ∧ ∃ L, (∀ b ∈ L, F b) ∧ Kp L W w') := Lib.hid (fun W F P R h a c hv => lx_add HML.out HMC.out h (by decide) hv (by have h1 := hv.len; rw [bv_length] at h1; have := HMB.out; omega) (E7.out))
      have HT1 : Hid (∀ W F P R, LX w W F t 2 T4 P R → Calls Tryd.prog 28 #[.pointer (some ⟨t, 0, none⟩), .string ⟨#[98, 111, 98]⟩, .int .u32 id] W fun e w' => ∃ a c, e = .returned (.tuple #[.slice a N c, .int .i64 0]) ∧ Rs w' F (.slice a N c) A ∧ LX w w' F t 2 T5 P R ∧ ∃ L, (∀ b ∈ L, F b) ∧ Kp L W w') := Lib.hid (fun W F P R h => (lx_take h (by decide) HID.out.1 HID.out.2 E8.out).mono fun e w' ⟨v, h1, h2, h3, h4⟩ => by obtain ⟨a', c', rfl⟩ := h2.rd.form; rw [bv_length] at h1 h2; simp only [HAL.out] at h1 h2; exact ⟨a', c', h1, h2.rs h.tr.lt, h3, h4⟩)
      have HT2 : Hid (∀ W F P R, LX w W F t 2 T5 P R → Calls Tryd.prog 28 #[.pointer (some ⟨t, 0, none⟩), .string ⟨#[101, 118, 101]⟩, .int .u32 id] W fun e w' => ∃ a c, e = .returned (.tuple #[.slice a N c, .int .i64 0]) ∧ Rs w' F (.slice a N c) B ∧ LX w w' F t 2 [] P R ∧ ∃ L, (∀ b ∈ L, F b) ∧ Kp L W w') := Lib.hid (fun W F P R h => (lx_take h (by decide) HID.out.1 HID.out.2 E9.out).mono fun e w' ⟨v, h1, h2, h3, h4⟩ => by obtain ⟨a', c', rfl⟩ := h2.rd.form; rw [bv_length] at h1 h2; simp only [HBL.out] at h1 h2; exact ⟨a', c', h1, h2.rs h.tr.lt, h3, h4⟩)
      go_upto_region 30 with (first
        | (go_at_call 28; (with_reducible refine (HT2.out _ _ _ _ HX24.out).mono ?_); rintro e w25 ⟨a25, c25, rfl, hr25, hx25, L25, hL25, hk25⟩; have HX25 := Lib.hid hx25; have HRY := Lib.hid hr25; have HRX := Lib.hid (HRX0.out.kp hk25 hL25); clear hx25 hr25 hL25 hk25)
        | (go_at_call 28; go_must (refine (HT1.out _ _ _ _ HX23.out).mono ?_; rintro e w24 ⟨a24, c24, rfl, hr24, hx24, L24, hL24, hk24⟩; have HX24 := Lib.hid hx24; have HRX0 := Lib.hid hr24; clear hx24 hr24 hL24 hk24))
        | (go_at_call 26; (with_reducible refine (A7.out _ _ _ _ HX22.out _ _ HRb22.out).mono ?_); rintro e w23 ⟨rfl, hxw23, Lw23, hLw23, hkw23⟩; have HX23 := Lib.hid hxw23; clear hcb22; clear hxw23 hLw23 hkw23)
        | (go_at_call 26; (with_reducible refine (A6.out _ _ _ _ HX21.out _ _ HRa21.out).mono ?_); rintro e w22 ⟨rfl, hxw22, Lw22, hLw22, hkw22⟩; have HX22 := Lib.hid hxw22; obtain ⟨qb22, rb22, hcb22, hrb22⟩ := (HX22.out.pq (gb, LB) (by simp)).at PB.out.2.1; have HRb22 := Lib.hid hrb22.r; clear hrb22; rw [HMB.out.2.2.2] at hcb22 HRb22; clear hca21; clear hxw22 hLw22 hkw22)
        | (go_at_call 26; go_must (refine (A5.out _ _ _ _ HX20.out _ _ HBD20.out).mono ?_; rintro e w21 ⟨rfl, hxw21, Lw21, hLw21, hkw21⟩; have HX21 := Lib.hid hxw21; obtain ⟨qa21, ra21, hca21, hra21⟩ := (HX21.out.pq (ga, LA) (by simp)).at PA.out.2.1; have HRa21 := Lib.hid hra21.r; clear hra21; rw [HM.out] at hca21 HRa21; clear hxw21 hLw21 hkw21))
        | fail)
      obtain ⟨F25, hs25⟩ : ∃ F : Nat → Prop, LX w w25 F t 2 [] [] [((.slice a24 N c24), A), ((.slice a25 N c25), B)] := ⟨_, HX25.out.k, HX25.out.tr, fun p hp => absurd hp (by simp), fun r hr => (by rcases List.mem_cons.1 hr with rfl | hr; exact HRX.out; rw [List.mem_singleton] at hr; subst hr; exact HRY.out), HX25.out.fw⟩
      have hca : ∀ W, LX w W F25 t 2 [] [] [((.slice a24 N c24), A), ((.slice a25 N c25), B)] → (convert 27 9 (.slice a24 N c24)).run Tryd.prog W = .ok (.string (strOf A)) W := fun W h => run_str Tryd.underlying27 Tryd.underlying5 Tryd.underlying9 (h.rs ((.slice a24 N c24), A) (by simp)).r
      have hcb : ∀ W, LX w W F25 t 2 [] [] [((.slice a24 N c24), A), ((.slice a25 N c25), B)] → (convert 27 9 (.slice a25 N c25)).run Tryd.prog W = .ok (.string (strOf B)) W := fun W h => run_str Tryd.underlying27 Tryd.underlying5 Tryd.underlying9 (h.rs ((.slice a25 N c25), B) (by simp)).r
      have hrc : ∀ W (l : List UInt8) a n c, Rd W (.slice a n c) (bv l) → (convert 27 9 (.slice a n c)).run Tryd.prog W = .ok (.string (strOf l)) W := fun W l a n c h => run_str Tryd.underlying27 Tryd.underlying5 Tryd.underlying9 h
      have hdr : ∀ W, LX w W F25 t 2 [] [] [((.slice a24 N c24), A), ((.slice a25 N c25), B)] → Calls Tryd.prog 30 #[.pointer (some ⟨t, 0, none⟩), .string ⟨#[98, 111, 98]⟩] W fun e w' => e = .returned (.int .i64 0) ∧ LX w w' F25 t 2 [] [] [((.slice a24 N c24), A), ((.slice a25 N c25), B)] := fun W h => (drop_tray F25 t 2 [] bob W h.tr).mono fun e w' ⟨n, h1, h2, h3, L, h4, h5⟩ => by
        have hd : dropE [] bob = [] := rfl
        rw [hd] at h2 h3
        have hn : n = 0 := by simpa using h2
        subst hn
        exact ⟨h1, h.same h3 h4 h5⟩
      have hln : ∀ W, LX w W F25 t 2 [] [] [((.slice a24 N c24), A), ((.slice a25 N c25), B)] → Calls Tryd.prog 29 #[.pointer (some ⟨t, 0, none⟩)] W fun e w' => e = .returned (.int .i64 0) ∧ W = w' := fun W h => trayLen_any F25 t 2 [] W h.tr
      have hea : ((strOf A).toList == (strOf A).toList) = true := by simp
      have heb : ((strOf B).toList == (strOf B).toList) = true := by simp
      obtain ⟨zA, hza⟩ : ∃ z, strOf A = z := ⟨_, rfl⟩
      obtain ⟨zB, hzb⟩ : ∃ z, strOf B = z := ⟨_, rfl⟩
      rw [hza] at hca hea
      rw [hzb] at hcb heb
      refine wp_region_noPanic ?_
      refine wp_region_held_drew (S := fun W => LX w W F25 t 2 [] [] [((.slice a24 N c24), A), ((.slice a25 N c25), B)]) (by kernel_rfl) (hs25.kp0 (Kp.refl [] w25).drew) (fun hHeld => ?_)
      clear hs25 HX25 HRX HRY HRX0
      refine wpAnyH_take (i := 0) (oi := { dst := some 279, op := Op.move (Operand.tmp 41), type := 28, pos := "law.go:195", after := #[], guard := none }) (v := .int .i64 0) rfl (by kernel_rfl) (by kernel_rfl) (by kernel_rfl) (fun _ _ _ h => h) (Or.inl ⟨by rfl, by intro w hSw; (try dsimp only at hSw); go_simp⟩) (by assumption) ?_
      try simp only [Act.put, List.setIfInBounds_toArray, List.set_cons_zero, List.set_cons_succ]
      refine wpAnyH_take (i := 1) (oi := { dst := some 280, op := Op.binOp BinOp.eql 28 (Operand.tmp 279) (Operand.const (Value.int IntKind.i64 0)) 28, type := 4, pos := "law.go:195", after := #[{ on := 0, ground := Ground.data }], guard := none }) (v := .bool true) rfl (by kernel_rfl) (by kernel_rfl) (by kernel_rfl) (fun _ _ _ h => h) (Or.inl ⟨by rfl, by intro w hSw; (try dsimp only at hSw); go_simp⟩) (by assumption) ?_
      try simp only [Act.put, List.setIfInBounds_toArray, List.set_cons_zero, List.set_cons_succ]
      refine wpAnyH_take (i := 2) (oi := { dst := some 281, op := Op.move (Operand.tmp 280), type := 4, pos := "law.go:195", after := #[{ on := 1, ground := Ground.data }], guard := none }) (v := .bool true) rfl (by kernel_rfl) (by kernel_rfl) (by kernel_rfl) (fun _ _ _ h => h) (Or.inl ⟨by rfl, by intro w hSw; (try dsimp only at hSw); go_simp⟩) (by assumption) ?_
      try simp only [Act.put, List.setIfInBounds_toArray, List.set_cons_zero, List.set_cons_succ]
      refine wpAnyH_take (i := 3) (oi := { dst := some 282, op := Op.move (Operand.tmp 43), type := 28, pos := "law.go:195", after := #[{ on := 2, ground := Ground.guard }], guard := some (2, true) }) (v := .int .i64 0) rfl (by kernel_rfl) (by kernel_rfl) (by kernel_rfl) (fun _ _ _ h => h) (Or.inl ⟨by rfl, by intro w hSw; (try dsimp only at hSw); go_simp⟩) (by assumption) ?_
      try simp only [Act.put, List.setIfInBounds_toArray, List.set_cons_zero, List.set_cons_succ]
      refine wpAnyH_take (i := 4) (oi := { dst := some 283, op := Op.binOp BinOp.eql 28 (Operand.tmp 282) (Operand.const (Value.int IntKind.i64 0)) 28, type := 4, pos := "law.go:195", after := #[{ on := 3, ground := Ground.data }, { on := 2, ground := Ground.guard }], guard := some (2, true) }) (v := .bool true) rfl (by kernel_rfl) (by kernel_rfl) (by kernel_rfl) (fun _ _ _ h => h) (Or.inl ⟨by rfl, by intro w hSw; (try dsimp only at hSw); go_simp⟩) (by assumption) ?_
      try simp only [Act.put, List.setIfInBounds_toArray, List.set_cons_zero, List.set_cons_succ]
      refine wpAnyH_take (i := 5) (oi := { dst := some 284, op := Op.pick (Operand.tmp 281) (Operand.tmp 283) (Operand.const (Value.bool false)), type := 4, pos := "law.go:195", after := #[{ on := 2, ground := Ground.data }, { on := 4, ground := Ground.data }], guard := none }) (v := .bool true) rfl (by kernel_rfl) (by kernel_rfl) (by kernel_rfl) (fun _ _ _ h => h) (Or.inl ⟨by rfl, by intro w hSw; (try dsimp only at hSw); go_simp⟩) (by assumption) ?_
      try simp only [Act.put, List.setIfInBounds_toArray, List.set_cons_zero, List.set_cons_succ]
      refine wpAnyH_take (i := 6) (oi := { dst := some 285, op := Op.move (Operand.tmp 284), type := 4, pos := "law.go:195", after := #[{ on := 5, ground := Ground.data }, { on := 2, ground := Ground.chain }], guard := none }) (v := .bool true) rfl (by kernel_rfl) (by kernel_rfl) (by kernel_rfl) (fun _ _ _ h => h) (Or.inl ⟨by rfl, by intro w hSw; (try dsimp only at hSw); go_simp⟩) (by assumption) ?_
      try simp only [Act.put, List.setIfInBounds_toArray, List.set_cons_zero, List.set_cons_succ]
      refine wpAnyH_take (i := 7) (oi := { dst := some 286, op := Op.move (Operand.tmp 40), type := 27, pos := "law.go:195", after := #[{ on := 6, ground := Ground.guard }], guard := some (6, true) }) (v := .slice a24 N c24) rfl (by kernel_rfl) (by kernel_rfl) (by kernel_rfl) (fun _ _ _ h => h) (Or.inl ⟨by rfl, by intro w hSw; (try dsimp only at hSw); go_simp⟩) (by assumption) ?_
      try simp only [Act.put, List.setIfInBounds_toArray, List.set_cons_zero, List.set_cons_succ]
      refine wpAnyH_take (i := 8) (oi := { dst := some 287, op := Op.convert 27 9 (Operand.tmp 286), type := 9, pos := "law.go:195", after := #[{ on := 7, ground := Ground.data }, { on := 6, ground := Ground.guard }], guard := some (6, true) }) (v := .string zA) rfl (by kernel_rfl) (by kernel_rfl) (by kernel_rfl) (fun _ _ _ h => h) (Or.inl ⟨by rfl, by intro w hSw; (try dsimp only at hSw); have hcx := hca _ hSw; go_simp⟩) (by assumption) ?_
      try simp only [Act.put, List.setIfInBounds_toArray, List.set_cons_zero, List.set_cons_succ]
      refine wpAnyH_take (i := 9) (oi := { dst := some 288, op := Op.move (Operand.tmp 0), type := 3, pos := "law.go:195", after := #[{ on := 6, ground := Ground.guard }], guard := some (6, true) }) (v := .int .i64 N) rfl (by kernel_rfl) (by kernel_rfl) (by kernel_rfl) (fun _ _ _ h => h) (Or.inl ⟨by rfl, by intro w hSw; (try dsimp only at hSw); go_simp⟩) (by assumption) ?_
      try simp only [Act.put, List.setIfInBounds_toArray, List.set_cons_zero, List.set_cons_succ]
      refine wpAnyH_take (i := 10) (oi := { dst := some 289, op := Op.move (Operand.tmp 1), type := 3, pos := "law.go:195", after := #[{ on := 6, ground := Ground.guard }], guard := some (6, true) }) (v := .int .i64 seed) rfl (by kernel_rfl) (by kernel_rfl) (by kernel_rfl) (fun _ _ _ h => h) (Or.inl ⟨by rfl, by intro w hSw; (try dsimp only at hSw); go_simp⟩) (by assumption) ?_
      try simp only [Act.put, List.setIfInBounds_toArray, List.set_cons_zero, List.set_cons_succ]
      refine wpAnyH_ready (rs := [11]) (by kernel_rfl) (by simp) ?_
      refine AllReadyH.cons (o := { dst := some 290, op := Op.call { callee := Callee.value (Operand.func 22), args := #[Operand.tmp 288, Operand.tmp 289], argTypes := #[3, 3] }, type := 27, pos := "law.go:195", after := #[{ on := 9, ground := Ground.data }, { on := 10, ground := Ground.data }, { on := 6, ground := Ground.chain }, { on := 6, ground := Ground.guard }], guard := some (6, true) }) rfl (fun K' hK => ?_) AllReadyH.nil
      go_simp
      refine (HLA.out _).mono ?_
      rintro e w26 ⟨a26, c26, rfl, hol26, hkl26⟩
      have hS26 : LX w w26 F25 t 2 [] [] [((.slice a24 N c24), A), ((.slice a25 N c25), B)] := hHeld.kp0 hkl26
      have hcl26 := hrc _ _ _ _ _ hol26.rd
      rw [hza] at hcl26
      clear hHeld hkl26 hol26
      (try go_simp)
      refine hK.out _ _ (hS26) (fun hHeld => ?_)
      clear hK K'
      try simp only [Act.put, List.setIfInBounds_toArray, List.set_cons_zero, List.set_cons_succ]
      refine wpAnyH_ready (rs := [12]) (by kernel_rfl) (by simp) ?_
      refine AllReadyH.cons (o := { dst := some 291, op := Op.convert 27 9 (Operand.tmp 290), type := 9, pos := "law.go:195", after := #[{ on := 11, ground := Ground.data }, { on := 6, ground := Ground.guard }], guard := some (6, true) }) rfl (fun K' hK => ?_) AllReadyH.nil
      go_simp
      (try go_simp)
      refine hK.out _ _ (hS26) (fun hHeld => ?_)
      clear hK K'
      try simp only [Act.put, List.setIfInBounds_toArray, List.set_cons_zero, List.set_cons_succ]
      refine wpAnyH_take (i := 13) (oi := { dst := some 292, op := Op.binOp BinOp.eql 9 (Operand.tmp 287) (Operand.tmp 291) 9, type := 4, pos := "law.go:195", after := #[{ on := 8, ground := Ground.data }, { on := 12, ground := Ground.data }, { on := 6, ground := Ground.guard }], guard := some (6, true) }) (v := .bool true) rfl (by kernel_rfl) (by kernel_rfl) (by kernel_rfl) (fun _ _ _ h => h) (Or.inl ⟨by rfl, by intro w hSw; (try dsimp only at hSw); go_simp⟩) (by assumption) ?_
      try simp only [Act.put, List.setIfInBounds_toArray, List.set_cons_zero, List.set_cons_succ]
      refine wpAnyH_take (i := 14) (oi := { dst := some 293, op := Op.pick (Operand.tmp 285) (Operand.tmp 292) (Operand.const (Value.bool false)), type := 4, pos := "law.go:195", after := #[{ on := 6, ground := Ground.data }, { on := 13, ground := Ground.data }], guard := none }) (v := .bool true) rfl (by kernel_rfl) (by kernel_rfl) (by kernel_rfl) (fun _ _ _ h => h) (Or.inl ⟨by rfl, by intro w hSw; (try dsimp only at hSw); go_simp⟩) (by assumption) ?_
      try simp only [Act.put, List.setIfInBounds_toArray, List.set_cons_zero, List.set_cons_succ]
      refine wpAnyH_take (i := 15) (oi := { dst := some 294, op := Op.move (Operand.tmp 293), type := 4, pos := "law.go:195", after := #[{ on := 14, ground := Ground.data }, { on := 11, ground := Ground.chain }], guard := none }) (v := .bool true) rfl (by kernel_rfl) (by kernel_rfl) (by kernel_rfl) (fun _ _ _ h => h) (Or.inl ⟨by rfl, by intro w hSw; (try dsimp only at hSw); go_simp⟩) (by assumption) ?_
      try simp only [Act.put, List.setIfInBounds_toArray, List.set_cons_zero, List.set_cons_succ]
      refine wpAnyH_take (i := 16) (oi := { dst := some 295, op := Op.move (Operand.tmp 42), type := 27, pos := "law.go:195", after := #[{ on := 15, ground := Ground.guard }], guard := some (15, true) }) (v := .slice a25 N c25) rfl (by kernel_rfl) (by kernel_rfl) (by kernel_rfl) (fun _ _ _ h => h) (Or.inl ⟨by rfl, by intro w hSw; (try dsimp only at hSw); go_simp⟩) (by assumption) ?_
      try simp only [Act.put, List.setIfInBounds_toArray, List.set_cons_zero, List.set_cons_succ]
      refine wpAnyH_take (i := 17) (oi := { dst := some 296, op := Op.convert 27 9 (Operand.tmp 295), type := 9, pos := "law.go:195", after := #[{ on := 16, ground := Ground.data }, { on := 15, ground := Ground.guard }], guard := some (15, true) }) (v := .string zB) rfl (by kernel_rfl) (by kernel_rfl) (by kernel_rfl) (fun _ _ _ h => h) (Or.inl ⟨by rfl, by intro w hSw; (try dsimp only at hSw); have hcx := hcb _ hSw; go_simp⟩) (by assumption) ?_
      try simp only [Act.put, List.setIfInBounds_toArray, List.set_cons_zero, List.set_cons_succ]
      refine wpAnyH_take (i := 18) (oi := { dst := some 297, op := Op.move (Operand.tmp 0), type := 3, pos := "law.go:195", after := #[{ on := 15, ground := Ground.guard }], guard := some (15, true) }) (v := .int .i64 N) rfl (by kernel_rfl) (by kernel_rfl) (by kernel_rfl) (fun _ _ _ h => h) (Or.inl ⟨by rfl, by intro w hSw; (try dsimp only at hSw); go_simp⟩) (by assumption) ?_
      try simp only [Act.put, List.setIfInBounds_toArray, List.set_cons_zero, List.set_cons_succ]
      refine wpAnyH_take (i := 19) (oi := { dst := some 298, op := Op.move (Operand.tmp 1), type := 3, pos := "law.go:195", after := #[{ on := 15, ground := Ground.guard }], guard := some (15, true) }) (v := .int .i64 seed) rfl (by kernel_rfl) (by kernel_rfl) (by kernel_rfl) (fun _ _ _ h => h) (Or.inl ⟨by rfl, by intro w hSw; (try dsimp only at hSw); go_simp⟩) (by assumption) ?_
      try simp only [Act.put, List.setIfInBounds_toArray, List.set_cons_zero, List.set_cons_succ]
      refine wpAnyH_take (i := 20) (oi := { dst := some 299, op := Op.binOp BinOp.add 3 (Operand.tmp 298) (Operand.const (Value.int IntKind.i64 1)) 3, type := 3, pos := "law.go:195", after := #[{ on := 19, ground := Ground.data }, { on := 15, ground := Ground.guard }], guard := some (15, true) }) (v := .int .i64 s2) rfl (by kernel_rfl) (by kernel_rfl) (by kernel_rfl) (fun _ _ _ h => h) (Or.inl ⟨by rfl, by intro w hSw; (try dsimp only at hSw); go_simp; rw [IntKind.wrap_i64]; have hz2 := HS2.out; unfold wrap64 at hz2; exact hz2⟩) (by assumption) ?_
      try simp only [Act.put, List.setIfInBounds_toArray, List.set_cons_zero, List.set_cons_succ]
      refine wpAnyH_ready (rs := [21]) (by kernel_rfl) (by simp) ?_
      refine AllReadyH.cons (o := { dst := some 300, op := Op.call { callee := Callee.value (Operand.func 22), args := #[Operand.tmp 297, Operand.tmp 299], argTypes := #[3, 3] }, type := 27, pos := "law.go:195", after := #[{ on := 18, ground := Ground.data }, { on := 20, ground := Ground.data }, { on := 15, ground := Ground.chain }, { on := 15, ground := Ground.guard }], guard := some (15, true) }) rfl (fun K' hK => ?_) AllReadyH.nil
      go_simp
      refine (HLB.out _).mono ?_
      rintro e w27 ⟨a27, c27, rfl, hol27, hkl27⟩
      have hS27 : LX w w27 F25 t 2 [] [] [((.slice a24 N c24), A), ((.slice a25 N c25), B)] := hHeld.kp0 hkl27
      have hcl27 := hrc _ _ _ _ _ hol27.rd
      rw [hzb] at hcl27
      clear hHeld hkl27 hol27
      (try go_simp)
      refine hK.out _ _ (hS27) (fun hHeld => ?_)
      clear hK K'
      try simp only [Act.put, List.setIfInBounds_toArray, List.set_cons_zero, List.set_cons_succ]
      refine wpAnyH_ready (rs := [22]) (by kernel_rfl) (by simp) ?_
      refine AllReadyH.cons (o := { dst := some 301, op := Op.convert 27 9 (Operand.tmp 300), type := 9, pos := "law.go:195", after := #[{ on := 21, ground := Ground.data }, { on := 15, ground := Ground.guard }], guard := some (15, true) }) rfl (fun K' hK => ?_) AllReadyH.nil
      go_simp
      (try go_simp)
      refine hK.out _ _ (hS27) (fun hHeld => ?_)
      clear hK K'
      try simp only [Act.put, List.setIfInBounds_toArray, List.set_cons_zero, List.set_cons_succ]
      refine wpAnyH_take (i := 23) (oi := { dst := some 302, op := Op.binOp BinOp.eql 9 (Operand.tmp 296) (Operand.tmp 301) 9, type := 4, pos := "law.go:195", after := #[{ on := 17, ground := Ground.data }, { on := 22, ground := Ground.data }, { on := 15, ground := Ground.guard }], guard := some (15, true) }) (v := .bool true) rfl (by kernel_rfl) (by kernel_rfl) (by kernel_rfl) (fun _ _ _ h => h) (Or.inl ⟨by rfl, by intro w hSw; (try dsimp only at hSw); go_simp⟩) (by assumption) ?_
      try simp only [Act.put, List.setIfInBounds_toArray, List.set_cons_zero, List.set_cons_succ]
      refine wpAnyH_take (i := 24) (oi := { dst := some 303, op := Op.pick (Operand.tmp 294) (Operand.tmp 302) (Operand.const (Value.bool false)), type := 4, pos := "law.go:195", after := #[{ on := 15, ground := Ground.data }, { on := 23, ground := Ground.data }], guard := none }) (v := .bool true) rfl (by kernel_rfl) (by kernel_rfl) (by kernel_rfl) (fun _ _ _ h => h) (Or.inl ⟨by rfl, by intro w hSw; (try dsimp only at hSw); go_simp⟩) (by assumption) ?_
      try simp only [Act.put, List.setIfInBounds_toArray, List.set_cons_zero, List.set_cons_succ]
      refine wpAnyH_take (i := 25) (oi := { dst := some 304, op := Op.move (Operand.tmp 303), type := 4, pos := "law.go:195", after := #[{ on := 24, ground := Ground.data }, { on := 21, ground := Ground.chain }], guard := none }) (v := .bool true) rfl (by kernel_rfl) (by kernel_rfl) (by kernel_rfl) (fun _ _ _ h => h) (Or.inl ⟨by rfl, by intro w hSw; (try dsimp only at hSw); go_simp⟩) (by assumption) ?_
      try simp only [Act.put, List.setIfInBounds_toArray, List.set_cons_zero, List.set_cons_succ]
      refine wpAnyH_take (i := 26) (oi := { dst := some 305, op := Op.move (Operand.tmp 13), type := 54, pos := "law.go:195", after := #[{ on := 25, ground := Ground.guard }], guard := some (25, true) }) (v := .pointer (some ⟨t, 0, none⟩)) rfl (by kernel_rfl) (by kernel_rfl) (by kernel_rfl) (fun _ _ _ h => h) (Or.inl ⟨by rfl, by intro w hSw; (try dsimp only at hSw); go_simp⟩) (by assumption) ?_
      try simp only [Act.put, List.setIfInBounds_toArray, List.set_cons_zero, List.set_cons_succ]
      refine wpAnyH_ready (rs := [27]) (by kernel_rfl) (by simp) ?_
      refine AllReadyH.cons (o := { dst := some 306, op := Op.call { callee := Callee.value (Operand.func 30), args := #[Operand.tmp 305, Operand.const (Value.string { data := #[98, 111, 98] })], argTypes := #[54, 9] }, type := 3, pos := "law.go:195", after := #[{ on := 26, ground := Ground.data }, { on := 25, ground := Ground.chain }, { on := 25, ground := Ground.guard }], guard := some (25, true) }) rfl (fun K' hK => ?_) AllReadyH.nil
      go_simp
      refine (hdr _ hHeld).mono ?_
      rintro e w28 ⟨rfl, hS28⟩
      clear hHeld
      (try go_simp)
      refine hK.out _ _ (hS28) (fun hHeld => ?_)
      clear hK K'
      try simp only [Act.put, List.setIfInBounds_toArray, List.set_cons_zero, List.set_cons_succ]
      refine wpAnyH_take (i := 28) (oi := { dst := some 307, op := Op.binOp BinOp.eql 3 (Operand.tmp 306) (Operand.const (Value.int IntKind.i64 0)) 3, type := 4, pos := "law.go:195", after := #[{ on := 27, ground := Ground.data }, { on := 25, ground := Ground.guard }], guard := some (25, true) }) (v := .bool true) rfl (by kernel_rfl) (by kernel_rfl) (by kernel_rfl) (fun _ _ _ h => h) (Or.inl ⟨by rfl, by intro w hSw; (try dsimp only at hSw); go_simp⟩) (by assumption) ?_
      try simp only [Act.put, List.setIfInBounds_toArray, List.set_cons_zero, List.set_cons_succ]
      refine wpAnyH_take (i := 29) (oi := { dst := some 308, op := Op.pick (Operand.tmp 304) (Operand.tmp 307) (Operand.const (Value.bool false)), type := 4, pos := "law.go:195", after := #[{ on := 25, ground := Ground.data }, { on := 28, ground := Ground.data }], guard := none }) (v := .bool true) rfl (by kernel_rfl) (by kernel_rfl) (by kernel_rfl) (fun _ _ _ h => h) (Or.inl ⟨by rfl, by intro w hSw; (try dsimp only at hSw); go_simp⟩) (by assumption) ?_
      try simp only [Act.put, List.setIfInBounds_toArray, List.set_cons_zero, List.set_cons_succ]
      refine wpAnyH_take (i := 30) (oi := { dst := some 309, op := Op.move (Operand.tmp 308), type := 4, pos := "law.go:195", after := #[{ on := 29, ground := Ground.data }, { on := 27, ground := Ground.chain }], guard := none }) (v := .bool true) rfl (by kernel_rfl) (by kernel_rfl) (by kernel_rfl) (fun _ _ _ h => h) (Or.inl ⟨by rfl, by intro w hSw; (try dsimp only at hSw); go_simp⟩) (by assumption) ?_
      try simp only [Act.put, List.setIfInBounds_toArray, List.set_cons_zero, List.set_cons_succ]
      refine wpAnyH_take (i := 31) (oi := { dst := some 310, op := Op.move (Operand.tmp 13), type := 54, pos := "law.go:195", after := #[{ on := 30, ground := Ground.guard }], guard := some (30, true) }) (v := .pointer (some ⟨t, 0, none⟩)) rfl (by kernel_rfl) (by kernel_rfl) (by kernel_rfl) (fun _ _ _ h => h) (Or.inl ⟨by rfl, by intro w hSw; (try dsimp only at hSw); go_simp⟩) (by assumption) ?_
      try simp only [Act.put, List.setIfInBounds_toArray, List.set_cons_zero, List.set_cons_succ]
      refine wpAnyH_ready (rs := [32]) (by kernel_rfl) (by simp) ?_
      refine AllReadyH.cons (o := { dst := some 311, op := Op.call { callee := Callee.value (Operand.func 29), args := #[Operand.tmp 310], argTypes := #[54] }, type := 3, pos := "law.go:195", after := #[{ on := 31, ground := Ground.data }, { on := 30, ground := Ground.chain }, { on := 30, ground := Ground.guard }], guard := some (30, true) }) rfl (fun K' hK => ?_) AllReadyH.nil
      go_simp
      refine (hln _ hHeld).mono ?_
      rintro e w29 ⟨rfl, rfl⟩
      (try go_simp)
      refine hK.out _ _ (hHeld) (fun hHeld => ?_)
      clear hK K'
      try simp only [Act.put, List.setIfInBounds_toArray, List.set_cons_zero, List.set_cons_succ]
      refine wpAnyH_take (i := 33) (oi := { dst := some 312, op := Op.binOp BinOp.eql 3 (Operand.tmp 311) (Operand.const (Value.int IntKind.i64 0)) 3, type := 4, pos := "law.go:195", after := #[{ on := 32, ground := Ground.data }, { on := 30, ground := Ground.guard }], guard := some (30, true) }) (v := .bool true) rfl (by kernel_rfl) (by kernel_rfl) (by kernel_rfl) (fun _ _ _ h => h) (Or.inl ⟨by rfl, by intro w hSw; (try dsimp only at hSw); go_simp⟩) (by assumption) ?_
      try simp only [Act.put, List.setIfInBounds_toArray, List.set_cons_zero, List.set_cons_succ]
      refine wpAnyH_take (i := 34) (oi := { dst := some 313, op := Op.pick (Operand.tmp 309) (Operand.tmp 312) (Operand.const (Value.bool false)), type := 4, pos := "law.go:195", after := #[{ on := 30, ground := Ground.data }, { on := 33, ground := Ground.data }], guard := none }) (v := .bool true) rfl (by kernel_rfl) (by kernel_rfl) (by kernel_rfl) (fun _ _ _ h => h) (Or.inl ⟨by rfl, by intro w hSw; (try dsimp only at hSw); go_simp⟩) (by assumption) ?_
      try simp only [Act.put, List.setIfInBounds_toArray, List.set_cons_zero, List.set_cons_succ]
      refine wpAnyH_take (i := 35) (oi := { dst := some 8, op := Op.assign (Operand.tmp 313), type := 4, pos := "law.go:195", after := #[{ on := 34, ground := Ground.data }, { on := 32, ground := Ground.chain }, { on := 0, ground := Ground.phase }, { on := 1, ground := Ground.phase }, { on := 2, ground := Ground.phase }, { on := 3, ground := Ground.phase }, { on := 4, ground := Ground.phase }, { on := 5, ground := Ground.phase }, { on := 6, ground := Ground.phase }, { on := 7, ground := Ground.phase }, { on := 8, ground := Ground.phase }, { on := 9, ground := Ground.phase }, { on := 10, ground := Ground.phase }, { on := 11, ground := Ground.phase }, { on := 12, ground := Ground.phase }, { on := 13, ground := Ground.phase }, { on := 14, ground := Ground.phase }, { on := 15, ground := Ground.phase }, { on := 16, ground := Ground.phase }, { on := 17, ground := Ground.phase }, { on := 18, ground := Ground.phase }, { on := 19, ground := Ground.phase }, { on := 20, ground := Ground.phase }, { on := 21, ground := Ground.phase }, { on := 22, ground := Ground.phase }, { on := 23, ground := Ground.phase }, { on := 24, ground := Ground.phase }, { on := 25, ground := Ground.phase }, { on := 26, ground := Ground.phase }, { on := 27, ground := Ground.phase }, { on := 28, ground := Ground.phase }, { on := 29, ground := Ground.phase }, { on := 30, ground := Ground.phase }, { on := 31, ground := Ground.phase }, { on := 32, ground := Ground.phase }, { on := 33, ground := Ground.phase }, { on := 34, ground := Ground.phase }], guard := none }) (v := .bool true) rfl (by kernel_rfl) (by kernel_rfl) (by kernel_rfl) (fun _ _ _ h => h) (Or.inl ⟨by rfl, by intro w hSw; (try dsimp only at hSw); go_simp⟩) (by assumption) ?_
      try simp only [Act.put, List.setIfInBounds_toArray, List.set_cons_zero, List.set_cons_succ]
      refine wpAnyH_done (by kernel_rfl) ?_ _
      refine NoPanic.normal ?_
      have HKE := Lib.hid hHeld.k
      clear hHeld
      go_wp2_with fail
      all_goals (go_ret; exact ⟨rfl, HKE.out⟩)
end Go.Proofs.YtkceaepbjdfccaaDoor
