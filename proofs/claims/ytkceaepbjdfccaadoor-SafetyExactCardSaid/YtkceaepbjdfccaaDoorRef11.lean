/-
letheref25.Digits, letheref25.Number.
-/
import Derived.Test.YtkceaepbjdfccaaDoorRef10
import Derived.Test.YtkceaepbjdfccaaDoorNumb3
namespace Go.Proofs.YtkceaepbjdfccaaDoor
open Go.RowKit
set_option maxRecDepth 100000 in
set_option maxHeartbeats 1000000 in
theorem rdigits_any (kk bg : List Int) (a : ByteArray) (ka : List Int) (b : ByteArray) (kb : List Int) (hka : ka.length = 32) (hkb : kb.length = 32) (hka8 : ∀ x ∈ ka, B8 x) (hkb8 : ∀ x ∈ kb, B8 x) (w : World) (hT : Tabr kk bg w) (ha : a.size ≤ 140737488351232) (hb : b.size ≤ 140737488351232) :
    Calls Tryd.prog 63 #[.string a, .agg (u8s ka), .string b, .agg (u8s kb)] w fun e w' => e = .returned (.tuple #[.string (strOf (jnS kk bg a ka b kb)), .int .i64 (twoErr a.size b.size)]) ∧ Kp [] w w' := by
  have HT := Lib.hid hT
  have hza : (u8s ka).size = 32 := by rw [u8s_size, hka]
  have hzb : (u8s kb).size = 32 := by rw [u8s_size, hkb]
  have HZA := Lib.hid hza
  have HZB := Lib.hid hzb
  have H1 := Lib.hid (fun W hW => rhalf_any kk bg a ka hka hka8 W hW ha)
  have H2 := Lib.hid (fun W hW => rhalf_any kk bg b kb hkb hkb8 W hW hb)
  have hJ : jnS kk bg a ka b kb = if twoErr a.size b.size = 0 then jn (halfS kk bg a ka) (halfS kk bg b kb) else [] := by
    unfold jnS halfS twoErr
    by_cases h1 : nameErr a.size = 0
    · by_cases h2 : nameErr b.size = 0
      · simp only [h1, h2, if_true]
      · simp only [h1, h2, if_true, if_false]
    · simp only [h1, if_false]
  have HJ := Lib.hid hJ
  have HE : Hid (twoErr a.size b.size = if nameErr a.size = 0 then nameErr b.size else nameErr a.size) := Lib.hid rfl
  have hK : Hid ((((w.alloc (.cells (u8s ka) 22)).alloc (.cells (u8s kb) 22)).heap[w.heap.size]? = some (.cells (u8s ka) 22 (0, 0))) ∧ (((w.alloc (.cells (u8s ka) 22)).alloc (.cells (u8s kb) 22)).heap[w.heap.size + 1]? = some (.cells (u8s kb) 22 (0, 0))) ∧ Kp [] w ((w.alloc (.cells (u8s ka) 22)).alloc (.cells (u8s kb) 22))) :=
    Lib.hid ⟨heap_alloc2_old w _ _, heap_alloc2_new w _ _, ((Kp.refl [] w).alloc _).alloc _⟩
  generalize jnS kk bg a ka b kb = J at *
  generalize twoErr a.size b.size = E at *
  have hlx := halfS_len kk bg a ka
  have hly := halfS_len kk bg b kb
  generalize halfS kk bg a ka = x at *
  generalize halfS kk bg b kb = y at *
  have hs1 : (strOf x).size ≤ 30 := by rw [strOf_size]; exact hlx
  have hs2 : (strOf y).size ≤ 30 := by rw [strOf_size]; exact hly
  generalize nameErr a.size = E1 at *
  generalize nameErr b.size = E2 at *
  clear hT hza hzb hJ
  by_cases h1 : E1 = 0
  · subst h1
    by_cases h2 : E2 = 0
    · subst h2
      have HEE : Hid (E = 0) := Lib.hid (by rw [HE.out, if_pos rfl])
      have hbl := bl_eq y x
      by_cases hlt : y < x
      · have HJJ : Hid (J = y ++ x) := Lib.hid (by rw [HJ.out, if_pos HEE.out, jn_of, if_pos hlt])
        have hd : decide (y < x) = true := by simpa using hlt
        rw [hd] at hbl
        clear hd hlt
        go_enter Tryd.func63, Tryd.ntmps63
        go_wp2_with (first
          | (refine wpList_load_row (by rfl) 22 (.tmp 5) (by rfl) w.heap.size (by rfl) 22 (u8s ka) (0, 0) _ hK.out.1 Tryd.underlying22 rfl (by rw [HZA.out]; kernel_rfl) ?_)
          | (refine wpList_load_row (by rfl) 22 (.tmp 7) (by rfl) (w.heap.size + 1) (by rfl) 22 (u8s kb) (0, 0) _ HK1.out.2 Tryd.underlying22 rfl (by rw [HZB.out]; kernel_rfl) ?_)
          | (go_at_call 38; (with_reducible refine (H1.out _ (HT.out.kp hK.out.2.2)).mono ?_); rintro e w1 ⟨rfl, hk1⟩; have HK1 := Lib.hid (And.intro (hK.out.2.2.trans0 hk1) (hk1.heap hK.out.2.1 (by simp))); clear hk1)
          | (go_at_call 38; go_must (refine (H2.out _ (HT.out.kp HK1.out.1)).mono ?_; rintro e w2 ⟨rfl, hk2⟩; have HK2 := Lib.hid (HK1.out.1.trans0 hk2); clear hk2)))
        go_ret2
        exact ⟨by rw [HEE.out, HJJ.out, ← strOf_cat]; rfl, HK2.out⟩
      · have HJJ : Hid (J = x ++ y) := Lib.hid (by rw [HJ.out, if_pos HEE.out, jn_of, if_neg hlt])
        have hd : decide (y < x) = false := by simpa using hlt
        rw [hd] at hbl
        clear hd hlt
        go_enter Tryd.func63, Tryd.ntmps63
        go_wp2_with (first
          | (refine wpList_load_row (by rfl) 22 (.tmp 5) (by rfl) w.heap.size (by rfl) 22 (u8s ka) (0, 0) _ hK.out.1 Tryd.underlying22 rfl (by rw [HZA.out]; kernel_rfl) ?_)
          | (refine wpList_load_row (by rfl) 22 (.tmp 7) (by rfl) (w.heap.size + 1) (by rfl) 22 (u8s kb) (0, 0) _ HK1.out.2 Tryd.underlying22 rfl (by rw [HZB.out]; kernel_rfl) ?_)
          | (go_at_call 38; (with_reducible refine (H1.out _ (HT.out.kp hK.out.2.2)).mono ?_); rintro e w1 ⟨rfl, hk1⟩; have HK1 := Lib.hid (And.intro (hK.out.2.2.trans0 hk1) (hk1.heap hK.out.2.1 (by simp))); clear hk1)
          | (go_at_call 38; go_must (refine (H2.out _ (HT.out.kp HK1.out.1)).mono ?_; rintro e w2 ⟨rfl, hk2⟩; have HK2 := Lib.hid (HK1.out.1.trans0 hk2); clear hk2)))
        go_ret2
        exact ⟨by rw [HEE.out, HJJ.out, ← strOf_cat]; rfl, HK2.out⟩
    · have HEE : Hid (E = E2) := Lib.hid (by rw [HE.out, if_pos rfl])
      have HNE := Lib.hid h2
      have hb2 : (E2 != 0) = true := by simpa using h2
      clear h2
      go_enter Tryd.func63, Tryd.ntmps63
      go_wp2_with (first
        | (refine wpList_load_row (by rfl) 22 (.tmp 5) (by rfl) w.heap.size (by rfl) 22 (u8s ka) (0, 0) _ hK.out.1 Tryd.underlying22 rfl (by rw [HZA.out]; kernel_rfl) ?_)
        | (refine wpList_load_row (by rfl) 22 (.tmp 7) (by rfl) (w.heap.size + 1) (by rfl) 22 (u8s kb) (0, 0) _ HK1.out.2 Tryd.underlying22 rfl (by rw [HZB.out]; kernel_rfl) ?_)
        | (go_at_call 38; (with_reducible refine (H1.out _ (HT.out.kp hK.out.2.2)).mono ?_); rintro e w1 ⟨rfl, hk1⟩; have HK1 := Lib.hid (And.intro (hK.out.2.2.trans0 hk1) (hk1.heap hK.out.2.1 (by simp))); clear hk1)
        | (go_at_call 38; go_must (refine (H2.out _ (HT.out.kp HK1.out.1)).mono ?_; rintro e w2 ⟨rfl, hk2⟩; have HK2 := Lib.hid (HK1.out.1.trans0 hk2); clear hk2)))
      go_ret2
      exact ⟨by rw [HJ.out, if_neg (by rw [HEE.out]; exact HNE.out), HEE.out]; rfl, HK2.out⟩
  · have HEE : Hid (E = E1) := Lib.hid (by rw [HE.out, if_neg h1])
    have HNE := Lib.hid h1
    have hb2 : (E1 != 0) = true := by simpa using h1
    clear h1
    go_enter Tryd.func63, Tryd.ntmps63
    go_wp2_with (first
        | (refine wpList_load_row (by rfl) 22 (.tmp 5) (by rfl) w.heap.size (by rfl) 22 (u8s ka) (0, 0) _ hK.out.1 Tryd.underlying22 rfl (by rw [HZA.out]; kernel_rfl) ?_)
        | (go_at_call 38; (with_reducible refine (H1.out _ (HT.out.kp hK.out.2.2)).mono ?_); rintro e w1 ⟨rfl, hk1⟩; have HK1 := Lib.hid (And.intro (hK.out.2.2.trans0 hk1) (hk1.heap hK.out.2.1 (by simp))); clear hk1))
    go_ret2
    exact ⟨by rw [HJ.out, if_neg (by rw [HEE.out]; exact HNE.out), HEE.out]; rfl, HK1.out.1⟩
/-- the digits in groups, so many groups -/
def gq (d : List UInt8) : Nat → List UInt8
  | 0 => []
  | k + 1 => gaps d k
set_option maxRecDepth 100000 in
set_option maxHeartbeats 1000000 in
theorem rnumber_any (kk bg : List Int) (a : ByteArray) (ka : List Int) (b : ByteArray) (kb : List Int) (hka : ka.length = 32) (hkb : kb.length = 32) (hka8 : ∀ x ∈ ka, B8 x) (hkb8 : ∀ x ∈ kb, B8 x) (w : World) (hT : Tabr kk bg w) (ha : a.size ≤ 140737488351232) (hb : b.size ≤ 140737488351232) :
    Calls Tryd.prog 39 #[.string a, .agg (u8s ka), .string b, .agg (u8s kb)] w fun e w' => e = .returned (.tuple #[.string (strOf (numS kk bg a ka b kb)), .int .i64 (twoErr a.size b.size)]) ∧ Kp [] w w' := by
  have HT := Lib.hid hT
  have hza : (u8s ka).size = 32 := by rw [u8s_size, hka]
  have hzb : (u8s kb).size = 32 := by rw [u8s_size, hkb]
  have HZA := Lib.hid hza
  have HZB := Lib.hid hzb
  have HJ := Lib.hid (fun W hW => rdigits_any kk bg a ka b kb hka hkb hka8 hkb8 W hW ha hb)
  have HL := Lib.hid (fun h => jnS_len kk bg a ka b kb h)
  have HN : Hid (numS kk bg a ka b kb = if twoErr a.size b.size = 0 then gaps (jnS kk bg a ka b kb) 11 else []) := Lib.hid rfl
  have hK : Hid ((((w.alloc (.cells (u8s ka) 22)).alloc (.cells (u8s kb) 22)).heap[w.heap.size]? = some (.cells (u8s ka) 22 (0, 0))) ∧ (((w.alloc (.cells (u8s ka) 22)).alloc (.cells (u8s kb) 22)).heap[w.heap.size + 1]? = some (.cells (u8s kb) 22 (0, 0))) ∧ Kp [] w ((w.alloc (.cells (u8s ka) 22)).alloc (.cells (u8s kb) 22))) :=
    Lib.hid ⟨heap_alloc2_old w _ _, heap_alloc2_new w _ _, ((Kp.refl [] w).alloc _).alloc _⟩
  generalize numS kk bg a ka b kb = R at *
  generalize jnS kk bg a ka b kb = d at *
  generalize twoErr a.size b.size = E at *
  clear hT hza hzb
  by_cases h1 : E = 0
  · subst h1
    have hl := HL.out rfl
    have hsz : (strOf d).size = 60 := by rw [strOf_size, hl]
    have HSZ := Lib.hid hsz
    have HLL := Lib.hid hl
    clear hl hsz
    go_enter Tryd.func39, Tryd.ntmps39
    go_wp2_with (first
      | (refine wpList_load_row (by rfl) 22 (.tmp 5) (by rfl) w.heap.size (by rfl) 22 (u8s ka) (0, 0) _ hK.out.1 Tryd.underlying22 rfl (by rw [HZA.out]; kernel_rfl) ?_)
      | (refine wpList_load_row (by rfl) 22 (.tmp 7) (by rfl) (w.heap.size + 1) (by rfl) 22 (u8s kb) (0, 0) _ hK.out.2.1 Tryd.underlying22 rfl (by rw [HZB.out]; kernel_rfl) ?_)
      | (go_at_call 63; go_must (refine (HJ.out _ (HT.out.kp hK.out.2.2)).mono ?_; rintro e w1 ⟨rfl, hk1⟩; have HK1 := Lib.hid (hK.out.2.2.trans0 hk1); clear hk1)))
    go_loop [12, 13] (fun v i => ∃ k j : Nat, Hid (j = 5 * k) ∧ k ≤ 12 ∧ j ≤ 60 ∧ i = .int .i64 j ∧ v = .string (strOf (gq d k))) (fun _ i => 60 - (intOf i).toNat)
    case atStart => exact ⟨0, 0, Lib.hid rfl, by decide, by decide, rfl, rfl⟩
    case round =>
      obtain ⟨k, j, HJK, hk, hj, rfl, rfl⟩ := hrel
      by_cases hlt : j < 60
      · have hltI : (j : Int) < 60 := by omega
        have q2 : j + 5 ≤ (strOf d).size := by rw [HSZ.out]; have := HJK.out; omega
        have q4 : ((strOf d).extract j (j + 5)).size ≤ 5 := by rw [ByteArray.size_extract]; omega
        cases k with
        | zero =>
          have hj0 : j = 0 := by have := HJK.out; omega
          have HJ0 := Lib.hid hj0
          have q0 : ¬ (0 : Int) < (j : Int) := by omega
          have q5 : ¬ 0 < j := by omega
          have q3 : (strOf (gq d 0)).size ≤ 71 := by rw [strOf_size]; simp [gq]
          clear hj0
          go_wp2_with fail
          go_round
          case rel =>
            refine ⟨1, j + 5, Lib.hid (by have := HJ0.out; omega), by omega, by omega, by go_num, ?_⟩
            rw [strOf_cut, show j + 5 - j = 5 by omega, HJ0.out, strOf_cat]
            rfl
          case measure => simp [intOf]; omega
        | succ k =>
          have q0 : (0 : Int) < (j : Int) := by have := HJK.out; omega
          have q5 : 0 < j := by have := HJK.out; omega
          have HGL := Lib.hid (gaps_len d HLL.out k (by omega))
          have q3 : (strOf (gq d (k + 1))).size ≤ 71 := by rw [strOf_size]; show (gaps d k).length ≤ 71; rw [HGL.out]; omega
          go_wp2_with fail
          go_round
          case rel =>
            refine ⟨k + 2, j + 5, Lib.hid (by have := HJK.out; omega), by have := HJK.out; omega, by have := HJK.out; omega, by go_num, ?_⟩
            rw [strOf_cut, show j + 5 - j = 5 by omega, HJK.out]
            show Value.string (strOf _ ++ strOf [32] ++ strOf _) = _
            rw [strOf_cat, strOf_cat, List.append_assoc]
            rfl
          case measure => simp [intOf]; omega
      · have hk12 : k = 12 := by have := HJK.out; omega
        subst hk12
        have hj60 : j = 60 := by omega
        subst hj60
        go_wp2_with fail
        go_ret2
        have hR : R = gaps d 11 := HN.out.trans (if_pos trivial)
        exact ⟨by rw [hR]; rfl, HK1.out⟩
  · have HNE := Lib.hid h1
    have hb2 : (E != 0) = true := by simpa using h1
    clear h1
    go_enter Tryd.func39, Tryd.ntmps39
    go_wp2_with (first
      | (refine wpList_load_row (by rfl) 22 (.tmp 5) (by rfl) w.heap.size (by rfl) 22 (u8s ka) (0, 0) _ hK.out.1 Tryd.underlying22 rfl (by rw [HZA.out]; kernel_rfl) ?_)
      | (refine wpList_load_row (by rfl) 22 (.tmp 7) (by rfl) (w.heap.size + 1) (by rfl) 22 (u8s kb) (0, 0) _ hK.out.2.1 Tryd.underlying22 rfl (by rw [HZB.out]; kernel_rfl) ?_)
      | (go_at_call 63; go_must (refine (HJ.out _ (HT.out.kp hK.out.2.2)).mono ?_; rintro e w1 ⟨rfl, hk1⟩; have HK1 := Lib.hid (hK.out.2.2.trans0 hk1); clear hk1)))
    go_ret2
    exact ⟨by rw [HN.out, if_neg HNE.out]; rfl, HK1.out⟩
end Go.Proofs.YtkceaepbjdfccaaDoor
