/-
lethelaw25.SafetySame.
-/
import Derived.Test.YtkceaepbjdfccaaDoorNumb3
namespace Go.Proofs.YtkceaepbjdfccaaDoor
open Go.RowKit
set_option maxRecDepth 100000 in
set_option maxHeartbeats 2000000 in
theorem same_any (kk bg : List Int) (a : ByteArray) (kx : List Int) (b : ByteArray) (ky : List Int) (w : World) (hT : Tabs kk bg w) (ha : a.size ≤ 140737488351232) (hkx : kx.length = 32) (hb : b.size ≤ 140737488351232) (hky : ky.length = 32) :
    Calls Tryd.prog 5 #[.string a, .agg (u8s kx), .string b, .agg (u8s ky)] w fun e w' => e = .returned (.bool true) ∧ Kp [] w w' := by
  have HT := Lib.hid hT
  have HZX : Hid ((u8s kx).size = 32) := Lib.hid (by rw [u8s_size, hkx])
  have HZY : Hid ((u8s ky).size = 32) := Lib.hid (by rw [u8s_size, hky])
  have HNA := Lib.hid (fun W => lnamed_any a W ha)
  have HNB := Lib.hid (fun W => lnamed_any b W hb)
  have h2 := nm_two a b
  have h2' := nm_two b a
  have hsa := nm_small a
  have hsb := nm_small b
  have hea := nm_err a
  have heb := nm_err b
  generalize nm a = a at *
  generalize nm b = b at *
  obtain ⟨x, hx⟩ : ∃ x, x = half kk bg (nums a) kx := ⟨_, rfl⟩
  obtain ⟨y, hy⟩ : ∃ y, y = half kk bg (nums b) ky := ⟨_, rfl⟩
  have hlx : x.length = 30 := by rw [hx]; exact half_len _ _ _ _
  have hly : y.length = 30 := by rw [hy]; exact half_len _ _ _ _
  have hdx : AllDig x := by rw [hx]; exact half_dig _ _ _ _
  have hdy : AllDig y := by rw [hy]; exact half_dig _ _ _ _
  have hHx : halfS kk bg a kx = x := by unfold halfS; rw [if_pos hea, hx]
  have hHy : halfS kk bg b ky = y := by unfold halfS; rw [if_pos heb, hy]
  have hJ : jnS kk bg a kx b ky = jn x y := by unfold jnS; rw [if_pos h2, hx, hy]
  have hJ' : jnS kk bg b ky a kx = jn x y := by unfold jnS; rw [if_pos h2', ← hx, ← hy, jn_comm]
  have hN : numS kk bg a kx b ky = gaps (jn x y) 11 := by unfold numS; rw [if_pos h2, hJ]
  have hN' : numS kk bg b ky a kx = gaps (jn x y) 11 := by unfold numS; rw [if_pos h2', hJ']
  have hjl := jn_len x y hlx hly
  have hjd := jn_dig hdx hdy
  obtain ⟨hr1, hr2, hr3⟩ := gaps_rdOk hjd hjl
  have hgl : (gaps (jn x y) 11).length = 71 := gaps_len _ hjl 11 (by decide)
  have hgf : (gaps (jn x y) 11).filter dig = jn x y := by rw [gaps_filter hjd 11]; exact List.take_of_length_le (by omega)
  have HBK := Lib.hid (fun i hi => gaps_blank hjd hjl i hi)
  have HJO := Lib.hid (jn_of x y)
  have hM : mtErr (strOf (gaps (jn x y) 11)).data.toList b.size a.size = 0 := by rw [strOf_toList]; unfold mtErr; rw [if_pos hr3]; exact h2'
  have hB : mtB kk bg (strOf (gaps (jn x y) 11)) b ky a kx = true := by unfold mtB; rw [hM, strOf_toList, hr2, hJ']; simp
  have hgs : (strOf (gaps (jn x y) 11)).size ≤ 140737488351232 := by rw [strOf_size, hgl]; decide
  have HN1 := Lib.hid (fun W hW => number_any kk bg a kx b ky hkx hky W hW hsa hsb)
  have HN2 := Lib.hid (fun W hW => number_any kk bg b ky a kx hky hkx W hW hsb hsa)
  have HHX := Lib.hid (fun W hW => half_any kk bg a kx hkx W hW hsa)
  have HHY := Lib.hid (fun W hW => half_any kk bg b ky hky W hW hsb)
  have HDG := Lib.hid (fun W => digits_any (strOf (gaps (jn x y) 11)) W hgs)
  have HRD := Lib.hid (fun W => read_any (strOf (gaps (jn x y) 11)) W hgs)
  have HMT := Lib.hid (fun W hW => match_any kk bg (strOf (gaps (jn x y) 11)) b ky a kx hky hkx W hW hgs hsb hsa)
  rw [hN, h2] at HN1
  rw [hN', h2'] at HN2
  rw [hHx, hea] at HHX
  rw [hHy, heb] at HHY
  rw [strOf_toList, hgf] at HDG
  rw [strOf_toList, hr2, hr3] at HRD
  rw [hB, hM] at HMT
  have hbl := bl_eq y x
  have hs1 : (strOf x).size = 30 := by rw [strOf_size, hlx]
  have hs2 : (strOf y).size = 30 := by rw [strOf_size, hly]
  have hs3 : (strOf (gaps (jn x y) 11)).size = 71 := by rw [strOf_size, hgl]
  have hs4 : (strOf (jn x y)).size = 60 := by rw [strOf_size, hjl]
  have h0 : ((w.alloc (.cells (u8s kx) 23)).alloc (.cells (u8s ky) 23)).heap[w.heap.size]? = some (.cells (u8s kx) 23 (0, 0)) := heap_alloc2_old w _ _
  have h1 : ((w.alloc (.cells (u8s kx) 23)).alloc (.cells (u8s ky) 23)).heap[w.heap.size + 1]? = some (.cells (u8s ky) 23 (0, 0)) := heap_alloc2_new w _ _
  have k0 : Kp [] w ((w.alloc (.cells (u8s kx) 23)).alloc (.cells (u8s ky) 23)) := ((Kp.refl [] w).alloc _).alloc _
  clear hx hy hHx hHy hJ hJ' hN hN' hr1 hr2 hr3 hM hB hgf hT hdx hdy hjd h2 h2' hea heb hlx hly hjl hgs
  have HCAT := Lib.hid (And.intro (strOf_cat x y) (strOf_cat y x))
  clear hgl
  generalize gaps (jn x y) 11 = G at *
  generalize jn x y = J at *
  have b1 : ((((strOf G).size : Int)) != 71) = false := by rw [hs3]; rfl
  have b2 : ((((strOf x).size : Int)) != 30) = false := by rw [hs1]; rfl
  have b3 : ((((strOf y).size : Int)) != 30) = false := by rw [hs2]; rfl
  have b4 : ((((strOf J).size : Int)) != 60) = false := by rw [hs4]; rfl
  have HS3 := Lib.hid hs3
  have hx30 : (strOf x).size ≤ 30 := by omega
  have hy30 : (strOf y).size ≤ 30 := by omega
  clear hs1 hs2 hs3 hs4
  go_enter Tryd.func5, Tryd.ntmps5
  go_wp2_with (first
      | (refine wpList_load_row (by rfl) 23 (.tmp 5) (by rfl) w.heap.size (by rfl) 23 (u8s kx) (0, 0) _ (by assumption) Tryd.underlying23 rfl (by rw [HZX.out]; kernel_rfl) ?_)
      | (refine wpList_load_row (by rfl) 23 (.tmp 7) (by rfl) (w.heap.size + 1) (by rfl) 23 (u8s ky) (0, 0) _ (by assumption) Tryd.underlying23 rfl (by rw [HZY.out]; kernel_rfl) ?_)
      | (go_at_call 12; (with_reducible refine (HNA.out _).mono ?_); rintro e w' ⟨rfl, rfl⟩)
      | (go_at_call 12; (with_reducible refine (HNB.out _).mono ?_); rintro e w' ⟨rfl, rfl⟩)
      | (go_at_call 16; (with_reducible refine (HN1.out _ (HT.out.kp (by assumption))).mono ?_); rintro e wN ⟨rfl, h⟩; have kN : Kp [] w wN := Kp.trans0 (by assumption) h; have hN0 : wN.heap[w.heap.size]? = some (.cells (u8s kx) 23 (0, 0)) := h.heap (by assumption) (by simp); have hN1 : wN.heap[w.heap.size + 1]? = some (.cells (u8s ky) 23 (0, 0)) := h.heap (by assumption) (by simp); clear h)
      | (go_at_call 16; (with_reducible refine (HN2.out _ (HT.out.kp (by assumption))).mono ?_); rintro e wN ⟨rfl, h⟩; have kN : Kp [] w wN := Kp.trans0 (by assumption) h; have hN0 : wN.heap[w.heap.size]? = some (.cells (u8s kx) 23 (0, 0)) := h.heap (by assumption) (by simp); have hN1 : wN.heap[w.heap.size + 1]? = some (.cells (u8s ky) 23 (0, 0)) := h.heap (by assumption) (by simp); clear h)
      | (go_at_call 14; (with_reducible refine (HHX.out _ (HT.out.kp (by assumption))).mono ?_); rintro e wN ⟨rfl, h⟩; have kN : Kp [] w wN := Kp.trans0 (by assumption) h; have hN0 : wN.heap[w.heap.size]? = some (.cells (u8s kx) 23 (0, 0)) := h.heap (by assumption) (by simp); have hN1 : wN.heap[w.heap.size + 1]? = some (.cells (u8s ky) 23 (0, 0)) := h.heap (by assumption) (by simp); clear h)
      | (go_at_call 14; (with_reducible refine (HHY.out _ (HT.out.kp (by assumption))).mono ?_); rintro e wN ⟨rfl, h⟩; have kN : Kp [] w wN := Kp.trans0 (by assumption) h; have hN0 : wN.heap[w.heap.size]? = some (.cells (u8s kx) 23 (0, 0)) := h.heap (by assumption) (by simp); have hN1 : wN.heap[w.heap.size + 1]? = some (.cells (u8s ky) 23 (0, 0)) := h.heap (by assumption) (by simp); clear h))
  go_loop [17] (fun i => ∃ k : Nat, k ≤ 71 ∧ i = .int .i64 k) (fun i => 71 - (intOf i).toNat)
  case atStart => exact ⟨0, Nat.zero_le _, rfl⟩
  case round =>
    obtain ⟨k, hk, rfl⟩ := hrel
    by_cases hlt : k < 71
    · have hlts : k < (strOf G).size := by rw [HS3.out]; exact hlt
      have q1 : (k : Int) < ((strOf G).size : Int) := by omega
      have hg := strOf_get G k hlts
      have hbk := HBK.out k hlt
      rw [← hg] at hbk
      have HBB := Lib.hid hbk
      clear hg hbk
      by_cases h5 : k % 6 = 5
      · have c5 : ((k : Int) % 6 == 5) = true := by rw [beq_iff_eq]; omega
        have e32 := HBB.out.2 h5
        have c32 : ((((strOf G)[k]).toNat : Int) == 32) = true := by rw [beq_iff_eq]; omega
        clear e32 h5
        go_wp2_with fail
        go_round
        case rel => exact ⟨k + 1, by omega, by go_num⟩
        case measure => simp [intOf]; omega
      · have c5 : ((k : Int) % 6 == 5) = false := by rw [beq_eq_false_iff_ne]; omega
        have e32 : ¬ ((strOf G)[k]).toNat = 32 := fun h => h5 (HBB.out.1 h)
        have c32 : ((((strOf G)[k]).toNat : Int) == 32) = false := by rw [beq_eq_false_iff_ne]; omega
        clear e32 h5
        go_wp2_with fail
        go_round
        case rel => exact ⟨k + 1, by omega, by go_num⟩
        case measure => simp [intOf]; omega
    · have q1 : ¬ (k : Int) < ((strOf G).size : Int) := by rw [HS3.out]; omega
      by_cases hyx : y < x
      · have hJ : J = y ++ x := by rw [HJO.out, if_pos hyx]
        have hcat : strOf y ++ strOf x = strOf J := by rw [hJ]; exact HCAT.out.2
        have hbl2 : Op.bytesLess (strOf y).toList (strOf x).toList = true := by rw [hbl]; simpa using hyx
        clear hyx hJ hbl
        go_wp2_with (first
      | (refine wpList_load_row (by rfl) 23 (.tmp 5) (by rfl) w.heap.size (by rfl) 23 (u8s kx) (0, 0) _ (by assumption) Tryd.underlying23 rfl (by rw [HZX.out]; kernel_rfl) ?_)
      | (refine wpList_load_row (by rfl) 23 (.tmp 7) (by rfl) (w.heap.size + 1) (by rfl) 23 (u8s ky) (0, 0) _ (by assumption) Tryd.underlying23 rfl (by rw [HZY.out]; kernel_rfl) ?_)
      | (go_at_call 17; (with_reducible refine (HDG.out _).mono ?_); rintro e wN ⟨rfl, h⟩; have kN : Kp [] w wN := Kp.trans0 (by assumption) h; have hN0 : wN.heap[w.heap.size]? = some (.cells (u8s kx) 23 (0, 0)) := h.heap (by assumption) (by simp); have hN1 : wN.heap[w.heap.size + 1]? = some (.cells (u8s ky) 23 (0, 0)) := h.heap (by assumption) (by simp); clear h)
      | (go_at_call 18; (with_reducible refine (HRD.out _).mono ?_); rintro e wN ⟨rfl, h⟩; have kN : Kp [] w wN := Kp.trans0 (by assumption) h; have hN0 : wN.heap[w.heap.size]? = some (.cells (u8s kx) 23 (0, 0)) := h.heap (by assumption) (by simp); have hN1 : wN.heap[w.heap.size + 1]? = some (.cells (u8s ky) 23 (0, 0)) := h.heap (by assumption) (by simp); clear h)
      | (go_at_call 19; (with_reducible refine (HMT.out _ (HT.out.kp (by assumption))).mono ?_); rintro e wN ⟨rfl, h⟩; have kN : Kp [] w wN := Kp.trans0 (by assumption) h; have hN0 : wN.heap[w.heap.size]? = some (.cells (u8s kx) 23 (0, 0)) := h.heap (by assumption) (by simp); have hN1 : wN.heap[w.heap.size + 1]? = some (.cells (u8s ky) 23 (0, 0)) := h.heap (by assumption) (by simp); clear h))
        go_ret
        exact ⟨rfl, by assumption⟩
      · have hJ : J = x ++ y := by rw [HJO.out, if_neg hyx]
        have hcat : strOf x ++ strOf y = strOf J := by rw [hJ]; exact HCAT.out.1
        have hbl2 : Op.bytesLess (strOf y).toList (strOf x).toList = false := by rw [hbl]; simpa using hyx
        clear hyx hJ hbl
        go_wp2_with (first
      | (refine wpList_load_row (by rfl) 23 (.tmp 5) (by rfl) w.heap.size (by rfl) 23 (u8s kx) (0, 0) _ (by assumption) Tryd.underlying23 rfl (by rw [HZX.out]; kernel_rfl) ?_)
      | (refine wpList_load_row (by rfl) 23 (.tmp 7) (by rfl) (w.heap.size + 1) (by rfl) 23 (u8s ky) (0, 0) _ (by assumption) Tryd.underlying23 rfl (by rw [HZY.out]; kernel_rfl) ?_)
      | (go_at_call 17; (with_reducible refine (HDG.out _).mono ?_); rintro e wN ⟨rfl, h⟩; have kN : Kp [] w wN := Kp.trans0 (by assumption) h; have hN0 : wN.heap[w.heap.size]? = some (.cells (u8s kx) 23 (0, 0)) := h.heap (by assumption) (by simp); have hN1 : wN.heap[w.heap.size + 1]? = some (.cells (u8s ky) 23 (0, 0)) := h.heap (by assumption) (by simp); clear h)
      | (go_at_call 18; (with_reducible refine (HRD.out _).mono ?_); rintro e wN ⟨rfl, h⟩; have kN : Kp [] w wN := Kp.trans0 (by assumption) h; have hN0 : wN.heap[w.heap.size]? = some (.cells (u8s kx) 23 (0, 0)) := h.heap (by assumption) (by simp); have hN1 : wN.heap[w.heap.size + 1]? = some (.cells (u8s ky) 23 (0, 0)) := h.heap (by assumption) (by simp); clear h)
      | (go_at_call 19; (with_reducible refine (HMT.out _ (HT.out.kp (by assumption))).mono ?_); rintro e wN ⟨rfl, h⟩; have kN : Kp [] w wN := Kp.trans0 (by assumption) h; have hN0 : wN.heap[w.heap.size]? = some (.cells (u8s kx) 23 (0, 0)) := h.heap (by assumption) (by simp); have hN1 : wN.heap[w.heap.size + 1]? = some (.cells (u8s ky) 23 (0, 0)) := h.heap (by assumption) (by simp); clear h))
        go_ret
        exact ⟨rfl, by assumption⟩
end Go.Proofs.YtkceaepbjdfccaaDoor
