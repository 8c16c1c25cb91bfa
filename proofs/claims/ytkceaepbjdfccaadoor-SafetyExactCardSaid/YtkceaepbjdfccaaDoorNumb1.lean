/-
safety.joined, safety.Number.
-/
import Derived.Test.YtkceaepbjdfccaaDoorHalf2
import Derived.Lib.MinMaxS
namespace Go.Proofs.YtkceaepbjdfccaaDoor
open Go.RowKit
/-- a name's half, or nothing -/
def halfS (kk bg : List Int) (s : ByteArray) (key : List Int) : List UInt8 := if nameErr s.size = 0 then half kk bg (nums s) key else []
theorem nameErr_zero {n : Nat} (h : nameErr n = 0) : ¬ n = 0 ∧ ¬ 16 < n := by
  unfold nameErr at h
  split at h
  · cases h
  · split at h
    · cases h
    · exact ⟨by assumption, by assumption⟩
theorem halfS_len (kk bg : List Int) (s : ByteArray) (key : List Int) : (halfS kk bg s key).length ≤ 30 := by
  unfold halfS; split
  · rw [half_len]; exact Nat.le_refl _
  · simp
theorem half_any (kk bg : List Int) (s : ByteArray) (key : List Int) (hkey : key.length = 32) (w : World) (hT : Tabs kk bg w) (hs : s.size ≤ 140737488351232) :
    Calls Tryd.prog 14 #[.string s, .agg (u8s key)] w fun e w' => e = .returned (.tuple #[.string (strOf (halfS kk bg s key)), .int .i64 (nameErr s.size)]) ∧ Kp [] w w' := by
  unfold halfS
  by_cases h : nameErr s.size = 0
  · obtain ⟨h0, h1⟩ := nameErr_zero h
    rw [if_pos h, h]
    exact half_ok kk bg s key hkey w hT h0 h1
  · rw [if_neg h]
    exact half_err s key w hs h
/-- the smaller one first -/
def jn (x y : List UInt8) : List UInt8 := if x < y ∨ x = y then x ++ y else y ++ x
theorem jn_len (x y : List UInt8) (hx : x.length = 30) (hy : y.length = 30) : (jn x y).length = 60 := by unfold jn; split <;> simp [hx, hy]
theorem minmax (x y : List UInt8) : (Lib.minS (strOf x) (strOf y)) ++ (Lib.maxS (strOf x) (strOf y)) = strOf (jn x y) := by
  unfold Lib.minS Lib.maxS jn
  simp only [strOf_toList]
  have hap : ∀ a b : List UInt8, strOf a ++ strOf b = strOf (a ++ b) := fun a b => by
    rw [ByteArray.ext_iff]; apply Array.ext'; simp [strOf]
  by_cases h1 : x < y
  · rw [if_pos (.inl h1), if_pos h1, if_pos (.inl h1), hap]
  · rw [if_neg h1]
    by_cases h2 : x = y
    · subst h2
      rw [if_pos (.inr rfl), if_pos (.inr rfl), hap]
    · rw [if_neg (by rintro (h | h); exact h1 h; exact h2 h), if_neg (by rintro (h | h); exact h1 h; exact h2 h), hap]
/-- the error of two names -/
def twoErr (m n : Nat) : Int := if nameErr m = 0 then nameErr n else nameErr m
/-- the sixty digits, or nothing -/
def jnS (kk bg : List Int) (a : ByteArray) (ka : List Int) (b : ByteArray) (kb : List Int) : List UInt8 := if twoErr a.size b.size = 0 then jn (half kk bg (nums a) ka) (half kk bg (nums b) kb) else []
theorem jnS_len (kk bg : List Int) (a : ByteArray) (ka : List Int) (b : ByteArray) (kb : List Int) (h : twoErr a.size b.size = 0) : (jnS kk bg a ka b kb).length = 60 := by
  unfold jnS; rw [if_pos h]; exact jn_len _ _ (half_len _ _ _ _) (half_len _ _ _ _)
theorem key_row (w : World) (key : List Int) (T : TypeId) : (w.alloc (.cells (u8s key) T)).heap[w.heap.size]? = some (.cells (u8s key) T (0, 0)) := heap_alloc_new w _
set_option maxRecDepth 100000 in
set_option maxHeartbeats 1000000 in
theorem joined_any (kk bg : List Int) (a : ByteArray) (ka : List Int) (b : ByteArray) (kb : List Int) (hka : ka.length = 32) (hkb : kb.length = 32) (w : World) (hT : Tabs kk bg w) (ha : a.size ≤ 140737488351232) (hb : b.size ≤ 140737488351232) :
    Calls Tryd.prog 42 #[.string a, .agg (u8s ka), .string b, .agg (u8s kb)] w fun e w' => e = .returned (.tuple #[.string (strOf (jnS kk bg a ka b kb)), .int .i64 (twoErr a.size b.size)]) ∧ Kp [] w w' := by
  have HT := Lib.hid hT
  have hza : (u8s ka).size = 32 := by rw [u8s_size, hka]
  have hzb : (u8s kb).size = 32 := by rw [u8s_size, hkb]
  have HZA := Lib.hid hza
  have HZB := Lib.hid hzb
  have H1 := Lib.hid (fun W hW => half_any kk bg a ka hka W hW ha)
  have H2 := Lib.hid (fun W hW => half_any kk bg b kb hkb W hW hb)
  have hJ : jnS kk bg a ka b kb = if twoErr a.size b.size = 0 then jn (halfS kk bg a ka) (halfS kk bg b kb) else [] := by
    unfold jnS halfS twoErr
    by_cases h1 : nameErr a.size = 0
    · by_cases h2 : nameErr b.size = 0
      · simp only [h1, h2, if_true]
      · simp only [h1, h2, if_true, if_false]
    · simp only [h1, if_false]
  have HJ := Lib.hid hJ
  have HM := Lib.hid (minmax (halfS kk bg a ka) (halfS kk bg b kb))
  have HE : Hid (twoErr a.size b.size = if nameErr a.size = 0 then nameErr b.size else nameErr a.size) := Lib.hid rfl
  have hK : Hid ((((w.alloc (.cells (u8s ka) 23)).alloc (.cells (u8s kb) 23)).heap[w.heap.size]? = some (.cells (u8s ka) 23 (0, 0))) ∧ (((w.alloc (.cells (u8s ka) 23)).alloc (.cells (u8s kb) 23)).heap[w.heap.size + 1]? = some (.cells (u8s kb) 23 (0, 0))) ∧ Kp [] w ((w.alloc (.cells (u8s ka) 23)).alloc (.cells (u8s kb) 23))) :=
    Lib.hid ⟨heap_alloc2_old w _ _, heap_alloc2_new w _ _, ((Kp.refl [] w).alloc _).alloc _⟩
  have hmn := fun (W : World) ts t x y => Lib.run_min_strs (P := Tryd.prog) W ts t x y
  have hmx := fun (W : World) ts t x y => Lib.run_max_strs (P := Tryd.prog) W ts t x y
  generalize jnS kk bg a ka b kb = J at *
  generalize twoErr a.size b.size = E at *
  have hlx := halfS_len kk bg a ka
  have hly := halfS_len kk bg b kb
  generalize halfS kk bg a ka = x at *
  generalize halfS kk bg b kb = y at *
  have hs1 : (Lib.minS (strOf x) (strOf y)).size ≤ 30 := by unfold Lib.minS; split <;> rw [strOf_size] <;> assumption
  have hs2 : (Lib.maxS (strOf x) (strOf y)).size ≤ 30 := by unfold Lib.maxS; split <;> rw [strOf_size] <;> assumption
  generalize nameErr a.size = E1 at *
  generalize nameErr b.size = E2 at *
  clear hT hza hzb hJ
  by_cases h1 : E1 = 0
  · subst h1
    by_cases h2 : E2 = 0
    · subst h2
      have HEE : Hid (E = 0) := Lib.hid (by rw [HE.out, if_pos rfl])
      go_enter Tryd.func42, Tryd.ntmps42
      go_wp2_with (first
        | (refine wpList_load_row (by rfl) 23 (.tmp 5) (by rfl) w.heap.size (by rfl) 23 (u8s ka) (0, 0) _ hK.out.1 Tryd.underlying23 rfl (by rw [HZA.out]; kernel_rfl) ?_)
        | (refine wpList_load_row (by rfl) 23 (.tmp 7) (by rfl) (w.heap.size + 1) (by rfl) 23 (u8s kb) (0, 0) _ HK1.out.2 Tryd.underlying23 rfl (by rw [HZB.out]; kernel_rfl) ?_)
        | (go_at_call 14; (with_reducible refine (H1.out _ (HT.out.kp hK.out.2.2)).mono ?_); rintro e w1 ⟨rfl, hk1⟩; have HK1 := Lib.hid (And.intro (hK.out.2.2.trans0 hk1) (hk1.heap hK.out.2.1 (by simp))); clear hk1)
        | (go_at_call 14; go_must (refine (H2.out _ (HT.out.kp HK1.out.1)).mono ?_; rintro e w2 ⟨rfl, hk2⟩; have HK2 := Lib.hid (HK1.out.1.trans0 hk2); clear hk2)))
      go_ret2
      exact ⟨by rw [HEE.out, HJ.out, if_pos HEE.out, ← HM.out]; rfl, HK2.out⟩
    · have HEE : Hid (E = E2) := Lib.hid (by rw [HE.out, if_pos rfl])
      have HNE := Lib.hid h2
      have hb2 : (E2 != 0) = true := by simpa using h2
      clear h2
      go_enter Tryd.func42, Tryd.ntmps42
      go_wp2_with (first
        | (refine wpList_load_row (by rfl) 23 (.tmp 5) (by rfl) w.heap.size (by rfl) 23 (u8s ka) (0, 0) _ hK.out.1 Tryd.underlying23 rfl (by rw [HZA.out]; kernel_rfl) ?_)
        | (refine wpList_load_row (by rfl) 23 (.tmp 7) (by rfl) (w.heap.size + 1) (by rfl) 23 (u8s kb) (0, 0) _ HK1.out.2 Tryd.underlying23 rfl (by rw [HZB.out]; kernel_rfl) ?_)
        | (go_at_call 14; (with_reducible refine (H1.out _ (HT.out.kp hK.out.2.2)).mono ?_); rintro e w1 ⟨rfl, hk1⟩; have HK1 := Lib.hid (And.intro (hK.out.2.2.trans0 hk1) (hk1.heap hK.out.2.1 (by simp))); clear hk1)
        | (go_at_call 14; go_must (refine (H2.out _ (HT.out.kp HK1.out.1)).mono ?_; rintro e w2 ⟨rfl, hk2⟩; have HK2 := Lib.hid (HK1.out.1.trans0 hk2); clear hk2)))
      go_ret2
      exact ⟨by rw [HJ.out, if_neg (by rw [HEE.out]; exact HNE.out), HEE.out]; rfl, HK2.out⟩
  · have HEE : Hid (E = E1) := Lib.hid (by rw [HE.out, if_neg h1])
    have HNE := Lib.hid h1
    have hb2 : (E1 != 0) = true := by simpa using h1
    clear h1
    go_enter Tryd.func42, Tryd.ntmps42
    go_wp2_with (first
        | (refine wpList_load_row (by rfl) 23 (.tmp 5) (by rfl) w.heap.size (by rfl) 23 (u8s ka) (0, 0) _ hK.out.1 Tryd.underlying23 rfl (by rw [HZA.out]; kernel_rfl) ?_)
        | (refine wpList_load_row (by rfl) 23 (.tmp 7) (by rfl) (w.heap.size + 1) (by rfl) 23 (u8s kb) (0, 0) _ HK1.out.2 Tryd.underlying23 rfl (by rw [HZB.out]; kernel_rfl) ?_)
        | (go_at_call 14; (with_reducible refine (H1.out _ (HT.out.kp hK.out.2.2)).mono ?_); rintro e w1 ⟨rfl, hk1⟩; have HK1 := Lib.hid (And.intro (hK.out.2.2.trans0 hk1) (hk1.heap hK.out.2.1 (by simp))); clear hk1)
        | (go_at_call 14; go_must (refine (H2.out _ (HT.out.kp HK1.out.1)).mono ?_; rintro e w2 ⟨rfl, hk2⟩; have HK2 := Lib.hid (HK1.out.1.trans0 hk2); clear hk2)))
    go_ret2
    exact ⟨by rw [HJ.out, if_neg (by rw [HEE.out]; exact HNE.out), HEE.out]; rfl, HK1.out.1⟩
/-- the digits in groups of five, so many behind the first -/
def gaps (d : List UInt8) : Nat → List UInt8
  | 0 => d.take 5
  | k + 1 => gaps d k ++ 32 :: (d.drop (5 * (k + 1))).take 5
theorem gaps_len (d : List UInt8) (h : d.length = 60) : ∀ k, k ≤ 11 → (gaps d k).length = 5 + 6 * k
  | 0, _ => by simp [gaps, h]
  | k + 1, hk => by
    rw [gaps, List.length_append, gaps_len d h k (by omega), List.length_cons, List.length_take, List.length_drop, h]
    omega
theorem strOf_cat (a b : List UInt8) : strOf a ++ strOf b = strOf (a ++ b) := by
  rw [ByteArray.ext_iff]; apply Array.ext'; simp [strOf]
theorem strOf_cut (l : List UInt8) (a b : Nat) : (strOf l).extract a b = strOf ((l.drop a).take (b - a)) := by
  rw [Lib.extract_eq, strOf_toList]; rfl
/-- the number, or nothing -/
def numS (kk bg : List Int) (a : ByteArray) (ka : List Int) (b : ByteArray) (kb : List Int) : List UInt8 := if twoErr a.size b.size = 0 then gaps (jnS kk bg a ka b kb) 11 else []
set_option maxRecDepth 100000 in
set_option maxHeartbeats 1000000 in
theorem number_any (kk bg : List Int) (a : ByteArray) (ka : List Int) (b : ByteArray) (kb : List Int) (hka : ka.length = 32) (hkb : kb.length = 32) (w : World) (hT : Tabs kk bg w) (ha : a.size ≤ 140737488351232) (hb : b.size ≤ 140737488351232) :
    Calls Tryd.prog 16 #[.string a, .agg (u8s ka), .string b, .agg (u8s kb)] w fun e w' => e = .returned (.tuple #[.string (strOf (numS kk bg a ka b kb)), .int .i64 (twoErr a.size b.size)]) ∧ Kp [] w w' := by
  have HT := Lib.hid hT
  have hza : (u8s ka).size = 32 := by rw [u8s_size, hka]
  have hzb : (u8s kb).size = 32 := by rw [u8s_size, hkb]
  have HZA := Lib.hid hza
  have HZB := Lib.hid hzb
  have HJ := Lib.hid (fun W hW => joined_any kk bg a ka b kb hka hkb W hW ha hb)
  have HL := Lib.hid (fun h => jnS_len kk bg a ka b kb h)
  have HN : Hid (numS kk bg a ka b kb = if twoErr a.size b.size = 0 then gaps (jnS kk bg a ka b kb) 11 else []) := Lib.hid rfl
  have hK : Hid ((((w.alloc (.cells (u8s ka) 23)).alloc (.cells (u8s kb) 23)).heap[w.heap.size]? = some (.cells (u8s ka) 23 (0, 0))) ∧ (((w.alloc (.cells (u8s ka) 23)).alloc (.cells (u8s kb) 23)).heap[w.heap.size + 1]? = some (.cells (u8s kb) 23 (0, 0))) ∧ Kp [] w ((w.alloc (.cells (u8s ka) 23)).alloc (.cells (u8s kb) 23))) :=
    Lib.hid ⟨heap_alloc2_old w _ _, heap_alloc2_new w _ _, ((Kp.refl [] w).alloc _).alloc _⟩
  generalize numS kk bg a ka b kb = R at *
  generalize jnS kk bg a ka b kb = d at *
  generalize twoErr a.size b.size = E at *
  clear hT hza hzb
  by_cases h1 : E = 0
  · subst h1
    have hl := HL.out rfl
    have hsz : (strOf d).size = 60 := by rw [strOf_size, hl]
    have HSZ := Lib.hid hsz
    have h5 : 5 ≤ (strOf d).size := by omega
    have HLL := Lib.hid hl
    clear hl hsz
    go_enter Tryd.func16, Tryd.ntmps16
    go_wp2_with (first
      | (refine wpList_load_row (by rfl) 23 (.tmp 5) (by rfl) w.heap.size (by rfl) 23 (u8s ka) (0, 0) _ hK.out.1 Tryd.underlying23 rfl (by rw [HZA.out]; kernel_rfl) ?_)
      | (refine wpList_load_row (by rfl) 23 (.tmp 7) (by rfl) (w.heap.size + 1) (by rfl) 23 (u8s kb) (0, 0) _ hK.out.2.1 Tryd.underlying23 rfl (by rw [HZB.out]; kernel_rfl) ?_)
      | (go_at_call 42; go_must (refine (HJ.out _ (HT.out.kp hK.out.2.2)).mono ?_; rintro e w1 ⟨rfl, hk1⟩; have HK1 := Lib.hid (hK.out.2.2.trans0 hk1); clear hk1)))
    rw [strOf_cut]
    go_loop [12, 13] (fun v i => ∃ k j : Nat, Hid (j = 5 * (k + 1)) ∧ k ≤ 11 ∧ j ≤ 60 ∧ i = .int .i64 j ∧ v = .string (strOf (gaps d k))) (fun _ i => 60 - (intOf i).toNat)
    case atStart => exact ⟨0, 5, Lib.hid rfl, by decide, by decide, rfl, rfl⟩
    case round =>
      obtain ⟨k, j, HJK, hk, hj, rfl, rfl⟩ := hrel
      have HGL := Lib.hid (gaps_len d HLL.out k hk)
      by_cases hlt : j < 60
      · have q1 : (j : Int) < ((strOf d).size : Int) := by rw [HSZ.out]; omega
        have q2 : j + 5 ≤ (strOf d).size := by rw [HSZ.out]; have := HJK.out; omega
        have q3 : (strOf (gaps d k)).size ≤ 71 := by rw [strOf_size, HGL.out]; omega
        have q4 : ((strOf d).extract j (j + 5)).size ≤ 5 := by rw [ByteArray.size_extract]; omega
        go_wp2_with fail
        go_round
        case rel =>
          refine ⟨k + 1, j + 5, Lib.hid (by have := HJK.out; omega), by have := HJK.out; omega, by have := HJK.out; omega, by go_num, ?_⟩
          rw [strOf_cut, show j + 5 - j = 5 by omega, HJK.out]
          show Value.string (strOf _ ++ (strOf [32] ++ strOf _)) = _
          rw [strOf_cat, strOf_cat]
          rfl
        case measure => simp [intOf]; omega
      · have hk11 : k = 11 := by have := HJK.out; omega
        subst hk11
        have q1 : ¬ (j : Int) < ((strOf d).size : Int) := by rw [HSZ.out]; omega
        go_wp2_with fail
        go_ret2
        have hR : R = gaps d 11 := HN.out.trans (if_pos trivial)
        exact ⟨by rw [hR]; rfl, HK1.out⟩
  · have HNE := Lib.hid h1
    have hb2 : (E != 0) = true := by simpa using h1
    clear h1
    go_enter Tryd.func16, Tryd.ntmps16
    go_wp2_with (first
      | (refine wpList_load_row (by rfl) 23 (.tmp 5) (by rfl) w.heap.size (by rfl) 23 (u8s ka) (0, 0) _ hK.out.1 Tryd.underlying23 rfl (by rw [HZA.out]; kernel_rfl) ?_)
      | (refine wpList_load_row (by rfl) 23 (.tmp 7) (by rfl) (w.heap.size + 1) (by rfl) 23 (u8s kb) (0, 0) _ hK.out.2.1 Tryd.underlying23 rfl (by rw [HZB.out]; kernel_rfl) ?_)
      | (go_at_call 42; go_must (refine (HJ.out _ (HT.out.kp hK.out.2.2)).mono ?_; rintro e w1 ⟨rfl, hk1⟩; have HK1 := Lib.hid (hK.out.2.2.trans0 hk1); clear hk1)))
    go_ret2
    exact ⟨by rw [HN.out, if_neg HNE.out]; rfl, HK1.out⟩
end Go.Proofs.YtkceaepbjdfccaaDoor
