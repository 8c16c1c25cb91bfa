/-
lethelaw25.SafetyTells.
-/
import Derived.Test.YtkceaepbjdfccaaDoorTells1
import Derived.Deep.RegionHeld3
import Derived.Deep.RegionLaw
namespace Go.Proofs.YtkceaepbjdfccaaDoor
open Go.RowKit
theorem rest_at (n m : Int) (w : World) (h0 : 0 < m) (h1 : m ≤ 1000) :
    Calls Tryd.prog 20 #[.int .i64 n, .int .i64 m] w fun e w' => e = .returned (.int .i64 (rs n m)) ∧ w' = w :=
  (rest_any n m w h0 h1).mono fun _ _ h => ⟨h.1, h.2.symm⟩
/-- the two boxes of keys -/
structure KK (w : World) (kx ky : List Int) (wr : World) : Prop where
  k : Kp [] w wr
  x : wr.heap[w.heap.size]? = some (.cells (u8s kx) 23 (0, 0))
  y : wr.heap[w.heap.size + 1]? = some (.cells (u8s ky) 23 (0, 0))
theorem KK.kp {w wr w' : World} {kx ky : List Int} (h : KK w kx ky wr) (k : Kp [] wr w') : KK w kx ky w' := ⟨h.k.trans0 k, k.heap h.x (by simp), k.heap h.y (by simp)⟩
theorem KK.drewN {w wr : World} {kx ky : List Int} (h : KK w kx ky wr) (n : Nat) : KK w kx ky (wr.drewN n) := ⟨h.k.drewN n, h.x, h.y⟩
theorem KK.drew {w wr : World} {kx ky : List Int} (h : KK w kx ky wr) : KK w kx ky wr.drew := ⟨h.k.drew, h.x, h.y⟩
/-- integers as cells -/
def iv64 (l : List Int) : List Value := l.map (Value.int .i64)
set_option maxRecDepth 100000 in
set_option maxHeartbeats 1000000 in
theorem tells_any (kk bg : List Int) (a : ByteArray) (kx : List Int) (b : ByteArray) (ky : List Int) (gv : Value) (gs : List Int) (at_ by_ : Int) (w : World) (hT : Tabs kk bg w) (ha : a.size ≤ 140737488351232) (hkx : kx.length = 32) (hb : b.size ≤ 140737488351232) (hky : ky.length = 32)
    (hgv : Rd w gv (iv64 gs)) (_ : gs.length ≤ 140737488351232) (_ : -9223372036854775808 ≤ at_ ∧ at_ ≤ 9223372036854775807) (_ : -9223372036854775808 ≤ by_ ∧ by_ ≤ 9223372036854775807) :
    Calls Tryd.prog 6 #[.string a, .agg (u8s kx), .string b, .agg (u8s ky), gv, .int .i64 at_, .int .i64 by_] w fun e w' => e = .returned (.bool true) ∧ Kp [] w w' := by
  obtain ⟨gao, gcap, rfl⟩ := hgv.form
  rw [show (iv64 gs).length = gs.length by simp [iv64]] at hgv ⊢
  have HT := Lib.hid hT
  have HZX : Hid ((u8s kx).size = 32) := Lib.hid (by rw [u8s_size, hkx])
  have HZY : Hid ((u8s ky).size = 32) := Lib.hid (by rw [u8s_size, hky])
  have HNA := Lib.hid (fun W => lnamed_any a W ha)
  have HNB := Lib.hid (fun W => lnamed_any b W hb)
  have h2 := nm_two a b
  have hsa := nm_small a
  have hsb := nm_small b
  generalize nm a = a at *
  generalize nm b = b at *
  have hd : AllDig (jnS kk bg a kx b ky) := by unfold jnS; rw [if_pos h2]; exact jn_dig (half_dig _ _ _ _) (half_dig _ _ _ _)
  have hl := jnS_len kk bg a kx b ky h2
  have hN : numS kk bg a kx b ky = gaps (jnS kk bg a kx b ky) 11 := by unfold numS; rw [if_pos h2]
  have HN1 := Lib.hid (fun W hW => number_any kk bg a kx b ky hkx hky W hW hsa hsb)
  have HMT : Hid (∀ (l : List UInt8), rdErr l = 0 → l.length ≤ 140737488351232 → ∀ W, Tabs kk bg W → Calls Tryd.prog 19 #[.string (strOf l), .string a, .agg (u8s kx), .string b, .agg (u8s ky)] W fun e w' => e = .returned (.tuple #[.bool (decide (rdS l = jnS kk bg a kx b ky)), .int .i64 0]) ∧ Kp [] W w') := Lib.hid (fun l hl hll W hW => by
    have h := match_any kk bg (strOf l) a kx b ky hkx hky W hW (by rw [strOf_size]; exact hll) hsa hsb
    have hM : mtErr (strOf l).data.toList a.size b.size = 0 := by rw [strOf_toList]; unfold mtErr; rw [if_pos hl]; exact h2
    have hB : mtB kk bg (strOf l) a kx b ky = decide (rdS l = jnS kk bg a kx b ky) := by unfold mtB; rw [hM, strOf_toList]; simp
    rw [hM, hB] at h
    exact h)
  rw [hN, h2] at HN1
  generalize jnS kk bg a kx b ky = d at *
  have hgl2 : (gaps d 11).length = 71 := gaps_len _ hl 11 (by decide)
  have hgf : (gaps d 11).filter dig = d := by rw [gaps_filter hd 11]; exact List.take_of_length_le (by omega)
  have HDG := Lib.hid (fun W => digits_any (strOf (gaps d 11)) W (by rw [strOf_size, hgl2]; decide))
  rw [strOf_toList, hgf] at HDG
  generalize gaps d 11 = G at *
  have hsd : (strOf d).size = 60 := by rw [strOf_size, hl]
  have b60 : ((((strOf d).size : Int)) != 60) = false := by rw [hsd]; rfl
  have HSD := Lib.hid hsd
  have HD := Lib.hid hd
  have HL := Lib.hid hl
  have h0 : ((w.alloc (.cells (u8s kx) 23)).alloc (.cells (u8s ky) 23)).heap[w.heap.size]? = some (.cells (u8s kx) 23 (0, 0)) := heap_alloc2_old w _ _
  have h1 : ((w.alloc (.cells (u8s kx) 23)).alloc (.cells (u8s ky) 23)).heap[w.heap.size + 1]? = some (.cells (u8s ky) 23 (0, 0)) := heap_alloc2_new w _ _
  have k0 : Kp [] w ((w.alloc (.cells (u8s kx) 23)).alloc (.cells (u8s ky) 23)) := ((Kp.refl [] w).alloc _).alloc _
  have HGV := Lib.hid hgv
  clear hT h2 hN hd hl hsd hgl2 hgf hgv
  go_enter Tryd.func6, Tryd.ntmps6
  go_wp2_with (first
      | (refine wpList_load_row (by rfl) 23 (.tmp 8) (by rfl) w.heap.size (by rfl) 23 (u8s kx) (0, 0) _ (by assumption) Tryd.underlying23 rfl (by rw [HZX.out]; kernel_rfl) ?_)
      | (refine wpList_load_row (by rfl) 23 (.tmp 10) (by rfl) (w.heap.size + 1) (by rfl) 23 (u8s ky) (0, 0) _ (by assumption) Tryd.underlying23 rfl (by rw [HZY.out]; kernel_rfl) ?_)
      | (go_at_call 12; (with_reducible refine (HNA.out _).mono ?_); rintro e w' ⟨rfl, rfl⟩)
      | (go_at_call 12; (with_reducible refine (HNB.out _).mono ?_); rintro e w' ⟨rfl, rfl⟩)
      | (go_at_call 16; (with_reducible refine (HN1.out _ (HT.out.kp (by assumption))).mono ?_); rintro e wN ⟨rfl, h⟩; have kN : Kp [] w wN := Kp.trans0 (by assumption) h; have hN0 : wN.heap[w.heap.size]? = some (.cells (u8s kx) 23 (0, 0)) := h.heap (by assumption) (by simp); have hN1 : wN.heap[w.heap.size + 1]? = some (.cells (u8s ky) 23 (0, 0)) := h.heap (by assumption) (by simp); clear h)
      | (go_at_call 17; (with_reducible refine (HDG.out _).mono ?_); rintro e wN ⟨rfl, h⟩; have kN : Kp [] w wN := Kp.trans0 (by assumption) h; have hN0 : wN.heap[w.heap.size]? = some (.cells (u8s kx) 23 (0, 0)) := h.heap (by assumption) (by simp); have hN1 : wN.heap[w.heap.size + 1]? = some (.cells (u8s ky) 23 (0, 0)) := h.heap (by assumption) (by simp); clear h))
  have HK : Hid (KK w kx ky wN) := Lib.hid ⟨by assumption, by assumption, by assumption⟩
  clear HN1 HDG HNA HNB
  go_loopw [18, 19] (fun v i wr => ∃ (q : Nat) (l : List UInt8), q ≤ 60 ∧ i = .int .i64 q ∧ v = .string (strOf l) ∧ Hid (Typed d l q (5 * q)) ∧ Hid (KK w kx ky wr)) (fun _ i _ => 60 - (intOf i).toNat)
  case atStart => exact ⟨0, [], Nat.zero_le _, rfl, rfl, Lib.hid ⟨rfl, rfl, by simp⟩, HK⟩
  case round =>
    clear HK
    obtain ⟨q, l, hq, rfl, rfl, HTY, HKK⟩ := hrel
    by_cases hlq : q < 60
    · have hlqI : (q : Int) < 60 := by omega
      go_wp2_with fail
      rename_i wo _ _
      go_loopw [18, 20] (fun v i wx => ∃ (j : Nat) (l : List UInt8), j ≤ 4 ∧ i = .int .i64 j ∧ v = .string (strOf l) ∧ Hid (Typed d l q (5 * q + j)) ∧ Hid (KK w kx ky wx)) (fun _ i _ => 4 - (intOf i).toNat)
      case atStart => exact ⟨0, l, Nat.zero_le _, rfl, rfl, HTY, HKK⟩
      case round =>
        clear HTY HKK
        obtain ⟨j, l, hj, rfl, rfl, HTY, HKK⟩ := hrel
        by_cases hgq : q < gs.length
        · obtain ⟨gb, goff, hgao, hx, hgc⟩ := (HGV.out.kp0 HKK.out.k).at hgq
          subst hgao
          have hge : (iv64 gs)[q] = .int .i64 gs[q] := by simp [iv64]
          rw [hge] at hgc
          generalize gs[q] = g at *
          obtain ⟨r, hr⟩ : ∃ r : Nat, rs g 4 = (r : Int) := ⟨(rs g 4).toNat, by have := rs_rng g 4 (by decide); omega⟩
          have hr4 : r < 4 := by have := rs_rng g 4 (by decide); omega
          have HR1 := Lib.hid (fun W => rest_any g 4 W (by decide) (by decide))
          rw [hr] at HR1
          by_cases hjr : j < r
          · obtain ⟨m, hm⟩ : ∃ m : Nat, rs (IntKind.i64.wrap (g + (j : Int))) 4 = (m : Int) := ⟨(rs (IntKind.i64.wrap (g + (j : Int))) 4).toNat, by have := rs_rng (IntKind.i64.wrap (g + (j : Int))) 4 (by decide); omega⟩
            have hm4 : m < 4 := by have := rs_rng (IntKind.i64.wrap (g + (j : Int))) 4 (by decide); omega
            have HR2 := Lib.hid (fun W => rest_any (IntKind.i64.wrap (g + (j : Int))) 4 W (by decide) (by decide))
            rw [hm] at HR2
            have HR3 : Hid (∀ W, Calls Tryd.prog 20 #[.int .i64 (wrap64 (g + (j : Int))), .int .i64 4] W fun e w' => e = .returned (.int .i64 (m : Int)) ∧ W = w') := Lib.hid (fun W => by rw [← IntWalk.i64_left]; exact HR2.out W)
            clear hr hm hge
            have hll : (strOf l).size ≤ 400 := by rw [strOf_size]; have := HTY.out.n; omega
            go_wp2_with (go_at_call 20; go_must (refine (HR1.out _).mono ?_; rintro e w' ⟨rfl, rfl⟩))
            have hq0 : (q : Int) < (gs.length : Int) := by omega
            have hq1 : (0 : Int) ≤ (q : Int) := by omega
            have v1 : IntKind.i64.wrap ((m : Int) + 1) = (m : Int) + 1 := IntWalk.i64_in _ (by omega)
            have v2 : (0 : Int) ≤ (m : Int) + 1 := by omega
            have v3 : ((m : Int) + 1).toNat = m + 1 := by omega
            have v4 : (m : Int) + 1 ≤ 4 := by omega
            go_quiet ((go_at_call 20; (first | (with_reducible exact quietS (HR2.out _)) | (with_reducible exact quietS (HR3.out _)))))
            obtain ⟨c, hc4, hc5, hc6⟩ := four_cut m hm4
            have hc4' : ({ data := #[32, 9, 10, 45] } : ByteArray).extract m (m + 1) = strOf [c] := hc4
            rw [hc4', strOf_cat]
            clear hc4 hc4' hll
            go_wp2_with fail
            go_roundw
            case rel => exact ⟨j + 1, l ++ [c], by omega, by go_num, rfl, Lib.hid (HTY.out.sep c hc5 hc6), Lib.hid (HKK.out.drewN nq)⟩
            case measure => simp [intOf]; omega
          · clear hr hge
            have hq0 : (q : Int) < (gs.length : Int) := by omega
            have hjr' : ¬ (j : Int) < (r : Int) := by omega
            clear hjr
            have u0 : (0 : Int) ≤ (q : Int) := by omega
            have u1 : (q : Int) ≤ (q : Int) + 1 := by omega
            have u2 : ((q : Int) + 1).toNat = q + 1 := by omega
            have u3 : (q : Int) + 1 ≤ ((strOf d).size : Int) := by rw [HSD.out]; omega
            have u4 : IntKind.i64.wrap ((q : Int) + 1) = (q : Int) + 1 := IntWalk.i64_in _ (by omega)
            have u5 : (strOf l).size ≤ 400 := by rw [strOf_size]; have := HTY.out.n; omega
            have u6 : ((strOf d).extract q (q + 1)).size ≤ 60 := by rw [ByteArray.size_extract, HSD.out]; omega
            go_wp2_with (go_at_call 20; go_must (refine (HR1.out _).mono ?_; rintro e w' ⟨rfl, rfl⟩))
            rw [strOf_cut, strOf_cat, show q + 1 - q = 1 by omega]
            clear u5 u6
            go_wp2_with fail
            go_roundw
            case rel => exact ⟨q + 1, l ++ (d.drop q).take 1, by omega, by go_num, rfl, Lib.hid (by have := HTY.out.dig HD.out (by rw [HL.out]; exact hlq); exact ⟨this.f, this.a, by have := this.n; omega⟩), by assumption⟩
            case measure => simp [intOf]; omega
        · have hq0 : ¬ (q : Int) < (gs.length : Int) := by omega
          clear hgq
          have u0 : (0 : Int) ≤ (q : Int) := by omega
          have u1 : (q : Int) ≤ (q : Int) + 1 := by omega
          have u2 : ((q : Int) + 1).toNat = q + 1 := by omega
          have u3 : (q : Int) + 1 ≤ ((strOf d).size : Int) := by rw [HSD.out]; omega
          have u4 : IntKind.i64.wrap ((q : Int) + 1) = (q : Int) + 1 := IntWalk.i64_in _ (by omega)
          have u5 : (strOf l).size ≤ 400 := by rw [strOf_size]; have := HTY.out.n; omega
          have u6 : ((strOf d).extract q (q + 1)).size ≤ 60 := by rw [ByteArray.size_extract, HSD.out]; omega
          go_wp2_with fail
          rw [strOf_cut, strOf_cat, show q + 1 - q = 1 by omega]
          clear u5 u6
          go_wp2_with fail
          go_roundw
          case rel => exact ⟨q + 1, l ++ (d.drop q).take 1, by omega, by go_num, rfl, Lib.hid (by have := HTY.out.dig HD.out (by rw [HL.out]; exact hlq); exact ⟨this.f, this.a, by have := this.n; omega⟩), by assumption⟩
          case measure => simp [intOf]; omega
    · have hlq' : ¬ (q : Int) < 60 := by omega
      have hl5 : l.length ≤ 400 := by have := HTY.out.n; omega
      have hq60 : q = 60 := by omega
      have hfl : l.filter dig = d := by rw [HTY.out.f, hq60]; exact List.take_of_length_le (by rw [HL.out]; omega)
      have h10 : (l ++ [10]).filter dig = d := by rw [List.filter_append, hfl]; exact List.append_nil d
      have h10a : (l ++ [10]).all (fun c => dig c || sep c) = true := by rw [List.all_append, HTY.out.a]; rfl
      have hrd := rd_of h10 h10a HL.out
      have HM1 := Lib.hid (HMT.out (l ++ [10]) hrd.2 (by simp; omega))
      rw [hrd.1, ← strOf_cat, decide_eq_true rfl] at HM1
      have HM1 : Hid (∀ W, Tabs kk bg W → Calls Tryd.prog 19 #[.string (strOf l ++ ⟨#[10]⟩), .string a, .agg (u8s kx), .string b, .agg (u8s ky)] W fun e w' => e = .returned (.tuple #[.bool true, .int .i64 0]) ∧ Kp [] W w') := HM1
      have hls : (strOf l).size ≤ 400 := by rw [strOf_size]; exact hl5
      have h30 : (l ++ [48]).filter dig = d ++ [48] := by rw [List.filter_append, hfl]; rfl
      have hr0 : rdErr (l ++ [48]) = 250 := rd_len (by rw [h30, List.length_append, HL.out]; decide)
      have HRA := Lib.hid (fun W => read_any (strOf (l ++ [48])) W (by rw [strOf_size]; simp; omega))
      rw [strOf_toList, hr0, ← strOf_cat] at HRA
      generalize rdS (l ++ [48]) = S1 at *
      have HRA : Hid (∀ W, Calls Tryd.prog 18 #[.string (strOf l ++ ⟨#[48]⟩)] W fun e w' => e = .returned (.tuple #[.string (strOf S1), .int .i64 250]) ∧ Kp [] W w') := HRA
      clear hfl h10 h10a hrd h30 hr0 hq60
      have hT := HT.out.kp HKK.out.k
      have hx0 := HKK.out.x
      have hy0 := HKK.out.y
      have hk0 := HKK.out.k
      obtain ⟨k, hk⟩ : ∃ k : Nat, rs at_ 60 = (k : Int) := ⟨(rs at_ 60).toNat, by have := rs_rng at_ 60 (by decide); omega⟩
      have hk60 : k < 60 := by have := rs_rng at_ 60 (by decide); omega
      have HQ1 := Lib.hid (fun W => rest_any at_ 60 W (by decide) (by decide))
      rw [hk] at HQ1
      obtain ⟨r, hr⟩ : ∃ r : Nat, rs by_ 9 = (r : Int) := ⟨(rs by_ 9).toNat, by have := rs_rng by_ 9 (by decide); omega⟩
      have hr9 : r < 9 := by have := rs_rng by_ 9 (by decide); omega
      have HQ2 := Lib.hid (fun W => rest_any by_ 9 W (by decide) (by decide))
      rw [hr] at HQ2
      obtain ⟨f, hf⟩ : ∃ f : Nat, rs by_ 8 = (f : Int) := ⟨(rs by_ 8).toNat, by have := rs_rng by_ 8 (by decide); omega⟩
      have hf8 : f < 8 := by have := rs_rng by_ 8 (by decide); omega
      have HQ3 := Lib.hid (fun W => rest_any by_ 8 W (by decide) (by decide))
      rw [hf] at HQ3
      clear hk hr hf HTY HKK
      have hkd : k < (strOf d).size := by rw [HSD.out]; exact hk60
      have hkd1 : (k : Int) < ((strOf d).size : Int) := by omega
      have hkd2 : (0 : Int) ≤ (k : Int) := by omega
      have hkd3 : (k : Int) ≤ ((strOf d).size : Int) := by omega
      have hkd4 : (k : Int) + 1 ≤ ((strOf d).size : Int) := by omega
      have hkd5 : IntKind.i64.wrap ((k : Int) + 1) = (k : Int) + 1 := IntWalk.i64_in _ (by omega)
      have hkd6 : ((k : Int) + 1).toNat = k + 1 := by omega
      have hg := strOf_get d k hkd
      have hdg := HD.out (d.getD k 0) (by rw [List.getD_eq_getElem?_getD, List.getElem?_eq_getElem (by rw [HL.out]; exact hk60)]; exact List.getElem_mem _)
      have hdn : 48 ≤ (d.getD k 0).toNat ∧ (d.getD k 0).toNat ≤ 57 := by unfold dig at hdg; simpa using hdg
      have w1 : IntKind.u8.wrap ((((strOf d)[k]).toNat : Int) - 48) = (((strOf d)[k]).toNat : Int) - 48 := IntWalk.u8_in _ (by rw [hg]; omega)
      go_wp2_with (first
      | (refine wpList_load_row (by rfl) 23 (.tmp 8) (by rfl) w.heap.size (by rfl) 23 (u8s kx) (0, 0) _ (by assumption) Tryd.underlying23 rfl (by rw [HZX.out]; kernel_rfl) ?_)
      | (refine wpList_load_row (by rfl) 23 (.tmp 10) (by rfl) (w.heap.size + 1) (by rfl) 23 (u8s ky) (0, 0) _ (by assumption) Tryd.underlying23 rfl (by rw [HZY.out]; kernel_rfl) ?_)
      | (go_at_call 19; (with_reducible refine (HM1.out _ (HT.out.kp (by assumption))).mono ?_); rintro e wN ⟨rfl, h⟩; have kN : Kp [] w wN := Kp.trans0 (by assumption) h; have hN0 : wN.heap[w.heap.size]? = some (.cells (u8s kx) 23 (0, 0)) := h.heap (by assumption) (by simp); have hN1 : wN.heap[w.heap.size + 1]? = some (.cells (u8s ky) 23 (0, 0)) := h.heap (by assumption) (by simp); clear h)
      | (go_at_call 20; (with_reducible refine (HQ1.out _).mono ?_); rintro e w' ⟨rfl, rfl⟩))
      go_quiet ((go_at_call 20; (with_reducible exact quietS (HQ2.out _))))
      rw [List.getD_eq_getElem?_getD] at hdn
      have ht := turnD_val ((d[k]?.getD 0).toNat : Int) (r : Int)
      have htd := turnD_dig ((d[k]?.getD 0).toNat : Int) (r : Int)
      have htn := turnD_ne (d[k]?.getD 0) (r : Int) (by omega) (by omega)
      have hte : 48 + ((((d[k]?.getD 0).toNat : Int) - 48) % 256 + 1 + (r : Int)) % 10 = ((turnD ((d[k]?.getD 0).toNat : Int) (r : Int)).toNat : Int) := by rw [ht]; omega
      simp only [hte]
      clear hte ht w1 hg hdg hdn
      generalize turnD ((d[k]?.getD 0).toNat : Int) (r : Int) = c at *
      have HC := Lib.hid (And.intro htd htn)
      clear htd htn
      have HB : Hid (∀ w', Kp [] wN w' → (w'.rangeAt w.heap.size 0 (u8s kx).toList ∧ w'.rangeAt (w.heap.size + 1) 0 (u8s ky).toList ∧ Kp [] wN w')) := Lib.hid (by
        intro w' k
        have e1 := k.heap hN0 (by simp)
        have e2 := k.heap hN1 (by simp)
        refine ⟨?_, ?_, k⟩
        · have := World.rangeAt_of_block e1 0 (u8s kx).size; simpa using this
        · have := World.rangeAt_of_block e2 0 (u8s ky).size; simpa using this)
      have HT2 : Hid (∀ w', Kp [] wN w' → Tabs kk bg w') := Lib.hid (fun w' k => HT.out.kp (Kp.trans0 kN k))
      have hw := wrongD_ok HD.out HL.out k hk60 c HC.out.1 (by rw [List.getD_eq_getElem?_getD]; exact HC.out.2)
      have HM2 := Lib.hid (HMT.out (wrongD d k c) hw.1 (by unfold wrongD; simp [HL.out]; omega))
      rw [decide_eq_false hw.2] at HM2
      have hws : (strOf d).extract 0 k ++ strOf [c] ++ (strOf d).extract (k + 1) (strOf d).size = strOf (wrongD d k c) := by
        rw [strOf_cut, strOf_cut, strOf_cat, strOf_cat, List.append_assoc]
        unfold wrongD
        rw [List.take_of_length_le (l := d.drop (k + 1)) (by simp [strOf_size])]
        simp
      rw [← hws] at HM2
      clear hw hws
      have hcv : (convert 27 9 (.slice (some ⟨wN.heap.size, 0, none⟩) 1 1)).run Tryd.prog ((wN.drewN (nq + 1)).alloc (.cells #[.int .u8 (c.toNat : Int)] 5 (0, 0))) = .ok (.string (strOf [c])) ((wN.drewN (nq + 1)).alloc (.cells #[.int .u8 (c.toNat : Int)] 5 (0, 0))) := run_str und_bytes und_u8 und_str (l := [c]) (rd_lit1 _ _ _)
      have hu1 := Tryd.underlying23
      have hu2 : (Tryd.prog.info? 23).map (·.size) = some (u8s kx).toList.length := by rw [Array.length_toList, HZX.out]; kernel_rfl
      have hu3 : (Tryd.prog.info? 23).map (·.size) = some (u8s ky).toList.length := by rw [Array.length_toList, HZY.out]; kernel_rfl
      have hs1 : (strOf [c]).size = 1 := by rw [strOf_size]; rfl
      have go1 : min k (strOf d).size + (strOf [c]).size ≤ 9223372036854775807 := by rw [hs1]; omega
      have go2 : min k (strOf d).size + (strOf [c]).size + ((strOf d).size - (k + 1)) ≤ 9223372036854775807 := by rw [hs1, HSD.out]; omega
      clear hs1
      have hb1 : rdErr (d.drop 1) = 250 := rd_len (by rw [AllDig.filter (fun x hx => HD.out x (List.mem_of_mem_drop hx)), List.length_drop, HL.out]; decide)
      have HRB := Lib.hid (fun W => read_any (strOf (d.drop 1)) W (by rw [strOf_size, List.length_drop, HL.out]; decide))
      rw [strOf_toList, hb1] at HRB
      have hb2 : (strOf d).extract 1 (strOf d).size = strOf (d.drop 1) := by rw [strOf_cut, List.take_of_length_le (by simp [strOf_size])]
      rw [← hb2] at HRB
      generalize rdS (d.drop 1) = S2 at *
      clear hb1 hb2
      have hb1 : rdErr (d.take k ++ ([46] ++ d.drop k)) = 250 := rd_has (c := 46) (by simp) (by decide)
      have HRC := Lib.hid (fun W => read_any (strOf (d.take k ++ ([46] ++ d.drop k))) W (by rw [strOf_size]; simp [HL.out]; omega))
      rw [strOf_toList, hb1] at HRC
      have hb2 : (strOf d).extract 0 k ++ (⟨#[46]⟩ : ByteArray) ++ (strOf d).extract k (strOf d).size = strOf (d.take k ++ ([46] ++ d.drop k)) := by
        rw [show (⟨#[46]⟩ : ByteArray) = strOf [46] from rfl, strOf_cut, strOf_cut, strOf_cat, strOf_cat, List.append_assoc]
        rw [List.take_of_length_le (l := d.drop k) (by simp [strOf_size])]
        simp
      rw [← hb2] at HRC
      generalize rdS (d.take k ++ ([46] ++ d.drop k)) = S3 at *
      clear hb1 hb2
      obtain ⟨bad, hbad, hbd⟩ := fore_bad f hf8
      have hfl4 : (fore.getD f []).length ≤ 3 := by
        have : f = 0 ∨ f = 1 ∨ f = 2 ∨ f = 3 ∨ f = 4 ∨ f = 5 ∨ f = 6 ∨ f = 7 := by omega
        rcases this with rfl | rfl | rfl | rfl | rfl | rfl | rfl | rfl <;> decide
      have hb1 : rdErr (d.take k ++ (fore.getD f [] ++ d.drop (k + 1))) = 250 := rd_has (c := bad) (by rw [List.mem_append, List.mem_append]; exact .inr (.inl hbad)) hbd
      have HRE := Lib.hid (fun W => read_any (strOf (d.take k ++ (fore.getD f [] ++ d.drop (k + 1)))) W (by rw [strOf_size]; simp [HL.out] at hfl4 ⊢; omega))
      rw [strOf_toList, hb1] at HRE
      have hb2 : (strOf d).extract 0 k ++ strOf (fore.getD f []) ++ (strOf d).extract (k + 1) (strOf d).size = strOf (d.take k ++ (fore.getD f [] ++ d.drop (k + 1))) := by
        rw [strOf_cut, strOf_cut, strOf_cat, strOf_cat, List.append_assoc]
        rw [List.take_of_length_le (l := d.drop (k + 1)) (by simp [strOf_size])]
        simp
      rw [← hb2] at HRE
      generalize rdS (d.take k ++ (fore.getD f [] ++ d.drop (k + 1))) = S4 at *
      clear hb1 hb2 hbad hbd
      go_wp2_with fail
      have hkd7 : (0 : Int) ≤ (k : Int) + 1 := by omega
      refine wp_region_noPanic ?_
      refine wp_region_held_drew (S := fun w' => w'.rangeAt w.heap.size 0 (u8s kx).toList ∧ w'.rangeAt (w.heap.size + 1) 0 (u8s ky).toList ∧ Kp [] wN w') (by kernel_rfl) (HB.out _ (((Kp.refl [] _).drewN _).drew)) (fun hHeld => ?_)
      refine wpAnyH_take (i := 0) (oi := { dst := some 126, op := Op.move (Operand.tmp 17), type := 9, pos := "law.go:130", after := #[], guard := none }) (v := .string (strOf d)) rfl (by kernel_rfl) (by kernel_rfl) (by kernel_rfl) (fun _ _ _ h => h) (Or.inl ⟨by rfl, by intro w hSw; (try dsimp only at hSw); go_simp⟩) (by assumption) ?_
      try simp only [Act.put, List.setIfInBounds_toArray, List.set_cons_zero, List.set_cons_succ]
      refine wpAnyH_take (i := 1) (oi := { dst := some 127, op := Op.move (Operand.tmp 23), type := 3, pos := "law.go:130", after := #[], guard := none }) (v := .int .i64 (k : Int)) rfl (by kernel_rfl) (by kernel_rfl) (by kernel_rfl) (fun _ _ _ h => h) (Or.inl ⟨by rfl, by intro w hSw; (try dsimp only at hSw); go_simp⟩) (by assumption) ?_
      try simp only [Act.put, List.setIfInBounds_toArray, List.set_cons_zero, List.set_cons_succ]
      refine wpAnyH_take (i := 2) (oi := { dst := some 128, op := Op.slice 9 (Operand.tmp 126) none (some (Operand.tmp 127)) none, type := 9, pos := "law.go:130", after := #[{ on := 0, ground := Ground.data }, { on := 1, ground := Ground.data }], guard := none }) (v := .string ((strOf d).extract 0 k)) rfl (by kernel_rfl) (by kernel_rfl) (by kernel_rfl) (fun _ _ _ h => h) (Or.inl ⟨by rfl, by intro w hSw; (try dsimp only at hSw); go_simp⟩) (by assumption) ?_
      try simp only [Act.put, List.setIfInBounds_toArray, List.set_cons_zero, List.set_cons_succ]
      refine wpAnyH_take (i := 3) (oi := { dst := some 129, op := Op.move (Operand.tmp 24), type := 5, pos := "law.go:130", after := #[], guard := none }) (v := .int .u8 (c.toNat : Int)) rfl (by kernel_rfl) (by kernel_rfl) (by kernel_rfl) (fun _ _ _ h => h) (Or.inl ⟨by rfl, by intro w hSw; (try dsimp only at hSw); go_simp⟩) (by assumption) ?_
      try simp only [Act.put, List.setIfInBounds_toArray, List.set_cons_zero, List.set_cons_succ]
      refine wpAnyH_take (i := 7) (oi := { dst := some 133, op := Op.move (Operand.tmp 17), type := 9, pos := "law.go:130", after := #[], guard := none }) (v := .string (strOf d)) rfl (by kernel_rfl) (by kernel_rfl) (by kernel_rfl) (fun _ _ _ h => h) (Or.inl ⟨by rfl, by intro w hSw; (try dsimp only at hSw); go_simp⟩) (by assumption) ?_
      try simp only [Act.put, List.setIfInBounds_toArray, List.set_cons_zero, List.set_cons_succ]
      refine wpAnyH_take (i := 8) (oi := { dst := some 134, op := Op.move (Operand.tmp 23), type := 3, pos := "law.go:130", after := #[], guard := none }) (v := .int .i64 (k : Int)) rfl (by kernel_rfl) (by kernel_rfl) (by kernel_rfl) (fun _ _ _ h => h) (Or.inl ⟨by rfl, by intro w hSw; (try dsimp only at hSw); go_simp⟩) (by assumption) ?_
      try simp only [Act.put, List.setIfInBounds_toArray, List.set_cons_zero, List.set_cons_succ]
      refine wpAnyH_take (i := 9) (oi := { dst := some 135, op := Op.binOp BinOp.add 3 (Operand.tmp 134) (Operand.const (Value.int IntKind.i64 1)) 3, type := 3, pos := "law.go:130", after := #[{ on := 8, ground := Ground.data }], guard := none }) (v := .int .i64 ((k : Int) + 1)) rfl (by kernel_rfl) (by kernel_rfl) (by kernel_rfl) (fun _ _ _ h => h) (Or.inl ⟨by rfl, by intro w hSw; (try dsimp only at hSw); go_simp⟩) (by assumption) ?_
      try simp only [Act.put, List.setIfInBounds_toArray, List.set_cons_zero, List.set_cons_succ]
      refine wpAnyH_take (i := 10) (oi := { dst := some 136, op := Op.slice 9 (Operand.tmp 133) (some (Operand.tmp 135)) none none, type := 9, pos := "law.go:130", after := #[{ on := 7, ground := Ground.data }, { on := 9, ground := Ground.data }], guard := none }) (v := .string ((strOf d).extract (k + 1) (strOf d).size)) rfl (by kernel_rfl) (by kernel_rfl) (by kernel_rfl) (fun _ _ _ h => h) (Or.inl ⟨by rfl, by intro w hSw; (try dsimp only at hSw); go_simp⟩) (by assumption) ?_
      try simp only [Act.put, List.setIfInBounds_toArray, List.set_cons_zero, List.set_cons_succ]
      refine wpAnyH_take (i := 12) (oi := { dst := some 138, op := Op.move (Operand.tmp 0), type := 9, pos := "law.go:130", after := #[], guard := none }) (v := .string a) rfl (by kernel_rfl) (by kernel_rfl) (by kernel_rfl) (fun _ _ _ h => h) (Or.inl ⟨by rfl, by intro w hSw; (try dsimp only at hSw); go_simp⟩) (by assumption) ?_
      try simp only [Act.put, List.setIfInBounds_toArray, List.set_cons_zero, List.set_cons_succ]
      refine wpAnyH_take (i := 14) (oi := { dst := some 140, op := Op.move (Operand.tmp 2), type := 9, pos := "law.go:130", after := #[], guard := none }) (v := .string b) rfl (by kernel_rfl) (by kernel_rfl) (by kernel_rfl) (fun _ _ _ h => h) (Or.inl ⟨by rfl, by intro w hSw; (try dsimp only at hSw); go_simp⟩) (by assumption) ?_
      try simp only [Act.put, List.setIfInBounds_toArray, List.set_cons_zero, List.set_cons_succ]
      refine wpAnyH_take (i := 13) (oi := { dst := some 139, op := Op.load 23 (Operand.tmp 8), type := 23, pos := "law.go:130", after := #[], guard := none }) (v := .agg (u8s kx).toList.toArray) rfl (by kernel_rfl) (by kernel_rfl) (by kernel_rfl) (fun _ _ _ h => h) (yieldsIf_load_mid (by rfl) 23 (.tmp 8) (by rfl) w.heap.size 0 (by rfl) (u8s kx).toList _ (fun w h => h.1) hu1 rfl hu2) (by assumption) ?_
      try simp only [Act.put, List.setIfInBounds_toArray, List.set_cons_zero, List.set_cons_succ]
      refine wpAnyH_take (i := 15) (oi := { dst := some 141, op := Op.load 23 (Operand.tmp 10), type := 23, pos := "law.go:130", after := #[], guard := none }) (v := .agg (u8s ky).toList.toArray) rfl (by kernel_rfl) (by kernel_rfl) (by kernel_rfl) (fun _ _ _ h => h) (yieldsIf_load_mid (by rfl) 23 (.tmp 10) (by rfl) (w.heap.size + 1) 0 (by rfl) (u8s ky).toList _ (fun w h => h.2.1) hu1 rfl hu3) (by assumption) ?_
      try simp only [Act.put, List.setIfInBounds_toArray, List.set_cons_zero, List.set_cons_succ]
      refine wpAnyH_ready (rs := [4]) (by kernel_rfl) (by simp) ?_
      refine AllReadyH.cons (o := { dst := some 130, op := Op.buildSlice 27 1 #[(0, Operand.tmp 129)], type := 27, pos := "law.go:130", after := #[{ on := 3, ground := Ground.data }], guard := none }) rfl (fun K hK => ?_) AllReadyH.nil
      go_simp
      refine hK.out _ _ (HB.out _ (Kp.alloc hHeld.2.2 _)) (fun hHeld => ?_)
      clear hK K
      try simp only [Act.put, List.setIfInBounds_toArray, List.set_cons_zero, List.set_cons_succ]
      refine wpAnyH_ready (rs := [5]) (by kernel_rfl) (by simp) ?_
      refine AllReadyH.cons (o := { dst := some 131, op := Op.convert 27 9 (Operand.tmp 130), type := 9, pos := "law.go:130", after := #[{ on := 4, ground := Ground.data }], guard := none }) rfl (fun K hK => ?_) AllReadyH.nil
      go_simp
      (try rw [hcv])
      (try go_simp)
      refine hK.out _ _ (hHeld) (fun hHeld => ?_)
      clear hK K
      try simp only [Act.put, List.setIfInBounds_toArray, List.set_cons_zero, List.set_cons_succ]
      refine wpAnyH_take (i := 6) (oi := { dst := some 132, op := Op.binOp BinOp.add 9 (Operand.tmp 128) (Operand.tmp 131) 9, type := 9, pos := "law.go:130", after := #[{ on := 2, ground := Ground.data }, { on := 5, ground := Ground.data }], guard := none }) (v := .string ((strOf d).extract 0 k ++ strOf [c])) rfl (by kernel_rfl) (by kernel_rfl) (by kernel_rfl) (fun _ _ _ h => h) (Or.inl ⟨by rfl, by intro w hSw; (try dsimp only at hSw); go_simp⟩) (by assumption) ?_
      try simp only [Act.put, List.setIfInBounds_toArray, List.set_cons_zero, List.set_cons_succ]
      refine wpAnyH_take (i := 11) (oi := { dst := some 137, op := Op.binOp BinOp.add 9 (Operand.tmp 132) (Operand.tmp 136) 9, type := 9, pos := "law.go:130", after := #[{ on := 6, ground := Ground.data }, { on := 10, ground := Ground.data }], guard := none }) (v := .string ((strOf d).extract 0 k ++ strOf [c] ++ (strOf d).extract (k + 1) (strOf d).size)) rfl (by kernel_rfl) (by kernel_rfl) (by kernel_rfl) (fun _ _ _ h => h) (Or.inl ⟨by rfl, by intro w hSw; (try dsimp only at hSw); go_simp⟩) (by assumption) ?_
      try simp only [Act.put, List.setIfInBounds_toArray, List.set_cons_zero, List.set_cons_succ]
      refine wpAnyH_ready (rs := [16]) (by kernel_rfl) (by simp) ?_
      refine AllReadyH.cons (o := { dst := some 142, op := Op.call { callee := Callee.value (Operand.func 19), args := #[Operand.tmp 137, Operand.tmp 138, Operand.tmp 139, Operand.tmp 140, Operand.tmp 141], argTypes := #[9, 9, 23, 9, 23] }, type := 39, pos := "law.go:130", after := #[{ on := 11, ground := Ground.data }, { on := 12, ground := Ground.data }, { on := 13, ground := Ground.data }, { on := 14, ground := Ground.data }, { on := 15, ground := Ground.data }], guard := none }) rfl (fun K hK => ?_) AllReadyH.nil
      go_simp
      refine (HM2.out _ (HT2.out _ hHeld.2.2)).mono ?_
      rintro e wM ⟨rfl, kM⟩
      (try go_simp)
      refine hK.out _ _ (HB.out _ (hHeld.2.2.trans0 kM)) (fun hHeld => ?_)
      clear hK K
      try simp only [Act.put, List.setIfInBounds_toArray, List.set_cons_zero, List.set_cons_succ]
      refine wpAnyH_take (i := 17) (oi := { dst := some 125, op := Op.move (Operand.tmp 142), type := 39, pos := "law.go:130", after := #[{ on := 16, ground := Ground.data }], guard := none }) (v := .tuple #[.bool false, .int .i64 0]) rfl (by kernel_rfl) (by kernel_rfl) (by kernel_rfl) (fun _ _ _ h => h) (Or.inl ⟨by rfl, by intro w hSw; (try dsimp only at hSw); go_simp⟩) (by assumption) ?_
      try simp only [Act.put, List.setIfInBounds_toArray, List.set_cons_zero, List.set_cons_succ]
      refine wpAnyH_take (i := 18) (oi := { dst := some 143, op := Op.extract (Operand.tmp 125) 0, type := 4, pos := "law.go:130", after := #[{ on := 17, ground := Ground.data }], guard := none }) (v := .bool false) rfl (by kernel_rfl) (by kernel_rfl) (by kernel_rfl) (fun _ _ _ h => h) (Or.inl ⟨by rfl, by intro w hSw; (try dsimp only at hSw); go_simp⟩) (by assumption) ?_
      try simp only [Act.put, List.setIfInBounds_toArray, List.set_cons_zero, List.set_cons_succ]
      refine wpAnyH_take (i := 19) (oi := { dst := some 144, op := Op.extract (Operand.tmp 125) 1, type := 28, pos := "law.go:130", after := #[{ on := 17, ground := Ground.data }, { on := 20, ground := Ground.gcOnly Departure.lateStores }], guard := none }) (v := .int .i64 0) rfl (by kernel_rfl) (by kernel_rfl) (by kernel_rfl) (fun _ _ _ h => h) (Or.inl ⟨by rfl, by intro w hSw; (try dsimp only at hSw); go_simp⟩) (by assumption) ?_
      try simp only [Act.put, List.setIfInBounds_toArray, List.set_cons_zero, List.set_cons_succ]
      refine wpAnyH_take (i := 20) (oi := { dst := some 25, op := Op.assign (Operand.tmp 143), type := 4, pos := "law.go:130", after := #[{ on := 18, ground := Ground.data }, { on := 16, ground := Ground.chain }, { on := 0, ground := Ground.phase }, { on := 1, ground := Ground.phase }, { on := 2, ground := Ground.phase }, { on := 3, ground := Ground.phase }, { on := 4, ground := Ground.phase }, { on := 5, ground := Ground.phase }, { on := 6, ground := Ground.phase }, { on := 7, ground := Ground.phase }, { on := 8, ground := Ground.phase }, { on := 9, ground := Ground.phase }, { on := 10, ground := Ground.phase }, { on := 11, ground := Ground.phase }, { on := 12, ground := Ground.phase }, { on := 13, ground := Ground.phase }, { on := 14, ground := Ground.phase }, { on := 15, ground := Ground.phase }, { on := 16, ground := Ground.phase }, { on := 17, ground := Ground.phase }, { on := 18, ground := Ground.phase }, { on := 19, ground := Ground.textOnly Departure.lateStores }], guard := none }) (v := .bool false) rfl (by kernel_rfl) (by kernel_rfl) (by kernel_rfl) (fun _ _ _ h => h) (Or.inl ⟨by rfl, by intro w hSw; (try dsimp only at hSw); go_simp⟩) (by assumption) ?_
      try simp only [Act.put, List.setIfInBounds_toArray, List.set_cons_zero, List.set_cons_succ]
      refine wpAnyH_take (i := 21) (oi := { dst := some 26, op := Op.assign (Operand.tmp 144), type := 28, pos := "law.go:130", after := #[{ on := 19, ground := Ground.data }, { on := 20, ground := Ground.chain }, { on := 0, ground := Ground.phase }, { on := 1, ground := Ground.phase }, { on := 2, ground := Ground.phase }, { on := 3, ground := Ground.phase }, { on := 4, ground := Ground.phase }, { on := 5, ground := Ground.phase }, { on := 6, ground := Ground.phase }, { on := 7, ground := Ground.phase }, { on := 8, ground := Ground.phase }, { on := 9, ground := Ground.phase }, { on := 10, ground := Ground.phase }, { on := 11, ground := Ground.phase }, { on := 12, ground := Ground.phase }, { on := 13, ground := Ground.phase }, { on := 14, ground := Ground.phase }, { on := 15, ground := Ground.phase }, { on := 16, ground := Ground.phase }, { on := 17, ground := Ground.phase }, { on := 18, ground := Ground.phase }, { on := 19, ground := Ground.phase }, { on := 20, ground := Ground.phase }], guard := none }) (v := .int .i64 0) rfl (by kernel_rfl) (by kernel_rfl) (by kernel_rfl) (fun _ _ _ h => h) (Or.inl ⟨by rfl, by intro w hSw; (try dsimp only at hSw); go_simp⟩) (by assumption) ?_
      try simp only [Act.put, List.setIfInBounds_toArray, List.set_cons_zero, List.set_cons_succ]
      refine wpAnyH_done (by kernel_rfl) ?_ _
      refine NoPanic.normal ?_
      have kM := hHeld.2.2
      clear hHeld go1 go2 hcv HM1 HM2 HT2
      go_wp2_with (first
        | (go_at_call 18; (with_reducible refine (HRA.out _).mono ?_); rintro e wO ⟨rfl, h⟩; have kO : Kp [] wN wO := Kp.trans0 (by assumption) h; clear h)
        | (go_at_call 18; (with_reducible refine (HRB.out _).mono ?_); rintro e wP ⟨rfl, h⟩; have kP : Kp [] wN wP := Kp.trans0 (by assumption) h; clear h))
      have go3 : min k (strOf d).size + 1 ≤ 9223372036854775807 := by omega
      have go4 : min k (strOf d).size + 1 + ((strOf d).size - k) ≤ 9223372036854775807 := by rw [HSD.out]; omega
      refine wp_region_noPanic ?_
      refine wp_region_held_drew (S := fun w' => Kp [] wN w') (by kernel_rfl) (Kp.drew (by assumption)) (fun hHeld => ?_)
      refine wpAnyH_take (i := 0) (oi := { dst := some 158, op := Op.move (Operand.tmp 17), type := 9, pos := "law.go:133", after := #[], guard := none }) (v := .string (strOf d)) rfl (by kernel_rfl) (by kernel_rfl) (by kernel_rfl) (fun _ _ _ h => h) (Or.inl ⟨by rfl, by intro w hSw; (try dsimp only at hSw); go_simp⟩) (by assumption) ?_
      try simp only [Act.put, List.setIfInBounds_toArray, List.set_cons_zero, List.set_cons_succ]
      refine wpAnyH_take (i := 1) (oi := { dst := some 159, op := Op.move (Operand.tmp 23), type := 3, pos := "law.go:133", after := #[], guard := none }) (v := .int .i64 (k : Int)) rfl (by kernel_rfl) (by kernel_rfl) (by kernel_rfl) (fun _ _ _ h => h) (Or.inl ⟨by rfl, by intro w hSw; (try dsimp only at hSw); go_simp⟩) (by assumption) ?_
      try simp only [Act.put, List.setIfInBounds_toArray, List.set_cons_zero, List.set_cons_succ]
      refine wpAnyH_take (i := 2) (oi := { dst := some 160, op := Op.slice 9 (Operand.tmp 158) none (some (Operand.tmp 159)) none, type := 9, pos := "law.go:133", after := #[{ on := 0, ground := Ground.data }, { on := 1, ground := Ground.data }], guard := none }) (v := .string ((strOf d).extract 0 k)) rfl (by kernel_rfl) (by kernel_rfl) (by kernel_rfl) (fun _ _ _ h => h) (Or.inl ⟨by rfl, by intro w hSw; (try dsimp only at hSw); go_simp⟩) (by assumption) ?_
      try simp only [Act.put, List.setIfInBounds_toArray, List.set_cons_zero, List.set_cons_succ]
      refine wpAnyH_take (i := 3) (oi := { dst := some 161, op := Op.binOp BinOp.add 9 (Operand.tmp 160) (Operand.const (Value.string { data := #[46] })) 9, type := 9, pos := "law.go:133", after := #[{ on := 2, ground := Ground.data }], guard := none }) (v := .string ((strOf d).extract 0 k ++ ⟨#[46]⟩)) rfl (by kernel_rfl) (by kernel_rfl) (by kernel_rfl) (fun _ _ _ h => h) (Or.inl ⟨by rfl, by intro w hSw; (try dsimp only at hSw); go_simp⟩) (by assumption) ?_
      try simp only [Act.put, List.setIfInBounds_toArray, List.set_cons_zero, List.set_cons_succ]
      refine wpAnyH_take (i := 4) (oi := { dst := some 162, op := Op.move (Operand.tmp 17), type := 9, pos := "law.go:133", after := #[], guard := none }) (v := .string (strOf d)) rfl (by kernel_rfl) (by kernel_rfl) (by kernel_rfl) (fun _ _ _ h => h) (Or.inl ⟨by rfl, by intro w hSw; (try dsimp only at hSw); go_simp⟩) (by assumption) ?_
      try simp only [Act.put, List.setIfInBounds_toArray, List.set_cons_zero, List.set_cons_succ]
      refine wpAnyH_take (i := 5) (oi := { dst := some 163, op := Op.move (Operand.tmp 23), type := 3, pos := "law.go:133", after := #[], guard := none }) (v := .int .i64 (k : Int)) rfl (by kernel_rfl) (by kernel_rfl) (by kernel_rfl) (fun _ _ _ h => h) (Or.inl ⟨by rfl, by intro w hSw; (try dsimp only at hSw); go_simp⟩) (by assumption) ?_
      try simp only [Act.put, List.setIfInBounds_toArray, List.set_cons_zero, List.set_cons_succ]
      refine wpAnyH_take (i := 6) (oi := { dst := some 164, op := Op.slice 9 (Operand.tmp 162) (some (Operand.tmp 163)) none none, type := 9, pos := "law.go:133", after := #[{ on := 4, ground := Ground.data }, { on := 5, ground := Ground.data }], guard := none }) (v := .string ((strOf d).extract k (strOf d).size)) rfl (by kernel_rfl) (by kernel_rfl) (by kernel_rfl) (fun _ _ _ h => h) (Or.inl ⟨by rfl, by intro w hSw; (try dsimp only at hSw); go_simp⟩) (by assumption) ?_
      try simp only [Act.put, List.setIfInBounds_toArray, List.set_cons_zero, List.set_cons_succ]
      refine wpAnyH_take (i := 7) (oi := { dst := some 165, op := Op.binOp BinOp.add 9 (Operand.tmp 161) (Operand.tmp 164) 9, type := 9, pos := "law.go:133", after := #[{ on := 3, ground := Ground.data }, { on := 6, ground := Ground.data }], guard := none }) (v := .string ((strOf d).extract 0 k ++ ⟨#[46]⟩ ++ (strOf d).extract k (strOf d).size)) rfl (by kernel_rfl) (by kernel_rfl) (by kernel_rfl) (fun _ _ _ h => h) (Or.inl ⟨by rfl, by intro w hSw; (try dsimp only at hSw); go_simp⟩) (by assumption) ?_
      try simp only [Act.put, List.setIfInBounds_toArray, List.set_cons_zero, List.set_cons_succ]
      refine wpAnyH_ready (rs := [8]) (by kernel_rfl) (by simp) ?_
      refine AllReadyH.cons (o := { dst := some 166, op := Op.call { callee := Callee.value (Operand.func 18), args := #[Operand.tmp 165], argTypes := #[9] }, type := 29, pos := "law.go:133", after := #[{ on := 7, ground := Ground.data }], guard := none }) rfl (fun K hK => ?_) AllReadyH.nil
      go_simp
      refine (HRC.out _).mono ?_
      rintro e wR ⟨rfl, h⟩
      have kR : Kp [] wN wR := hHeld.trans0 h
      clear h
      (try go_simp)
      refine hK.out _ _ (kR) (fun hHeld => ?_)
      clear hK K
      try simp only [Act.put, List.setIfInBounds_toArray, List.set_cons_zero, List.set_cons_succ]
      refine wpAnyH_take (i := 9) (oi := { dst := some 157, op := Op.move (Operand.tmp 166), type := 29, pos := "law.go:133", after := #[{ on := 8, ground := Ground.data }], guard := none }) (v := .tuple #[.string (strOf S3), .int .i64 250]) rfl (by kernel_rfl) (by kernel_rfl) (by kernel_rfl) (fun _ _ _ h => h) (Or.inl ⟨by rfl, by intro w hSw; (try dsimp only at hSw); go_simp⟩) (by assumption) ?_
      try simp only [Act.put, List.setIfInBounds_toArray, List.set_cons_zero, List.set_cons_succ]
      refine wpAnyH_take (i := 10) (oi := { dst := some 167, op := Op.extract (Operand.tmp 157) 0, type := 9, pos := "law.go:133", after := #[{ on := 9, ground := Ground.data }], guard := none }) (v := .string (strOf S3)) rfl (by kernel_rfl) (by kernel_rfl) (by kernel_rfl) (fun _ _ _ h => h) (Or.inl ⟨by rfl, by intro w hSw; (try dsimp only at hSw); go_simp⟩) (by assumption) ?_
      try simp only [Act.put, List.setIfInBounds_toArray, List.set_cons_zero, List.set_cons_succ]
      refine wpAnyH_take (i := 11) (oi := { dst := some 168, op := Op.extract (Operand.tmp 157) 1, type := 28, pos := "law.go:133", after := #[{ on := 9, ground := Ground.data }, { on := 12, ground := Ground.gcOnly Departure.lateStores }], guard := none }) (v := .int .i64 250) rfl (by kernel_rfl) (by kernel_rfl) (by kernel_rfl) (fun _ _ _ h => h) (Or.inl ⟨by rfl, by intro w hSw; (try dsimp only at hSw); go_simp⟩) (by assumption) ?_
      try simp only [Act.put, List.setIfInBounds_toArray, List.set_cons_zero, List.set_cons_succ]
      refine wpAnyH_take (i := 12) (oi := { dst := some 31, op := Op.assign (Operand.tmp 167), type := 9, pos := "law.go:133", after := #[{ on := 10, ground := Ground.data }, { on := 8, ground := Ground.chain }, { on := 0, ground := Ground.phase }, { on := 1, ground := Ground.phase }, { on := 2, ground := Ground.phase }, { on := 3, ground := Ground.phase }, { on := 4, ground := Ground.phase }, { on := 5, ground := Ground.phase }, { on := 6, ground := Ground.phase }, { on := 7, ground := Ground.phase }, { on := 8, ground := Ground.phase }, { on := 9, ground := Ground.phase }, { on := 10, ground := Ground.phase }, { on := 11, ground := Ground.textOnly Departure.lateStores }], guard := none }) (v := .string (strOf S3)) rfl (by kernel_rfl) (by kernel_rfl) (by kernel_rfl) (fun _ _ _ h => h) (Or.inl ⟨by rfl, by intro w hSw; (try dsimp only at hSw); go_simp⟩) (by assumption) ?_
      try simp only [Act.put, List.setIfInBounds_toArray, List.set_cons_zero, List.set_cons_succ]
      refine wpAnyH_take (i := 13) (oi := { dst := some 32, op := Op.assign (Operand.tmp 168), type := 28, pos := "law.go:133", after := #[{ on := 11, ground := Ground.data }, { on := 12, ground := Ground.chain }, { on := 0, ground := Ground.phase }, { on := 1, ground := Ground.phase }, { on := 2, ground := Ground.phase }, { on := 3, ground := Ground.phase }, { on := 4, ground := Ground.phase }, { on := 5, ground := Ground.phase }, { on := 6, ground := Ground.phase }, { on := 7, ground := Ground.phase }, { on := 8, ground := Ground.phase }, { on := 9, ground := Ground.phase }, { on := 10, ground := Ground.phase }, { on := 11, ground := Ground.phase }, { on := 12, ground := Ground.phase }], guard := none }) (v := .int .i64 250) rfl (by kernel_rfl) (by kernel_rfl) (by kernel_rfl) (fun _ _ _ h => h) (Or.inl ⟨by rfl, by intro w hSw; (try dsimp only at hSw); go_simp⟩) (by assumption) ?_
      try simp only [Act.put, List.setIfInBounds_toArray, List.set_cons_zero, List.set_cons_succ]
      refine wpAnyH_done (by kernel_rfl) ?_ _
      refine NoPanic.normal ?_
      clear hHeld
      clear go3 go4
      go_wp2_with fail
      have HFC : Hid (∀ w' : World, w'.heap[wR.heap.size]? = some (.cells #[.string ⟨#[196, 176]⟩, .string ⟨#[196, 185]⟩, .string ⟨#[239, 188, 144]⟩, .string ⟨#[217, 160]⟩, .string ⟨#[176]⟩, .string ⟨#[255]⟩, .string ⟨#[0]⟩, .string ⟨#[226, 128, 176]⟩] 9 (0, 0)) → w'.cell? ⟨wR.heap.size, f, none⟩ = some (.string (strOf (fore.getD f [])))) := Lib.hid (by
        intro w' h
        rw [cell_of_row _ _ _ _ _ _ h]
        have : f = 0 ∨ f = 1 ∨ f = 2 ∨ f = 3 ∨ f = 4 ∨ f = 5 ∨ f = 6 ∨ f = 7 := by omega
        rcases this with rfl | rfl | rfl | rfl | rfl | rfl | rfl | rfl <;> rfl)
      have hF : (wR.alloc (.cells #[.string ⟨#[196, 176]⟩, .string ⟨#[196, 185]⟩, .string ⟨#[239, 188, 144]⟩, .string ⟨#[217, 160]⟩, .string ⟨#[176]⟩, .string ⟨#[255]⟩, .string ⟨#[0]⟩, .string ⟨#[226, 128, 176]⟩] 9 (0, 0))).heap[wR.heap.size]? = some (.cells #[.string ⟨#[196, 176]⟩, .string ⟨#[196, 185]⟩, .string ⟨#[239, 188, 144]⟩, .string ⟨#[217, 160]⟩, .string ⟨#[176]⟩, .string ⟨#[255]⟩, .string ⟨#[0]⟩, .string ⟨#[226, 128, 176]⟩] 9 (0, 0)) := by
        show (wR.heap.push _)[wR.heap.size]? = _
        exact Array.getElem?_push_size
      have kF : Kp [] wN (wR.alloc (.cells #[.string ⟨#[196, 176]⟩, .string ⟨#[196, 185]⟩, .string ⟨#[239, 188, 144]⟩, .string ⟨#[217, 160]⟩, .string ⟨#[176]⟩, .string ⟨#[255]⟩, .string ⟨#[0]⟩, .string ⟨#[226, 128, 176]⟩] 9 (0, 0))) := kR.alloc _
      have hff : (strOf (fore.getD f [])).size ≤ 3 := by rw [strOf_size]; exact hfl4
      clear hfl4
      generalize fore.getD f [] = ff at *
      have f1 : (0 : Int) ≤ (f : Int) := by omega
      have f2 : (f : Int) < 8 := by omega
      have go5 : min k (strOf d).size + (strOf ff).size ≤ 9223372036854775807 := by omega
      have go6 : min k (strOf d).size + (strOf ff).size + ((strOf d).size - (k + 1)) ≤ 9223372036854775807 := by rw [HSD.out]; omega
      refine wp_region_noPanic ?_
      refine wp_region_held_drew (S := fun w' => w'.cell? ⟨wR.heap.size, f, none⟩ = some (.string (strOf ff)) ∧ w'.heap[wR.heap.size]? = some (.cells #[.string ⟨#[196, 176]⟩, .string ⟨#[196, 185]⟩, .string ⟨#[239, 188, 144]⟩, .string ⟨#[217, 160]⟩, .string ⟨#[176]⟩, .string ⟨#[255]⟩, .string ⟨#[0]⟩, .string ⟨#[226, 128, 176]⟩] 9 (0, 0)) ∧ Kp [] wN w') (by kernel_rfl) ⟨HFC.out _ hF, hF, Kp.drew kF⟩ (fun hHeld => ?_)
      refine wpAnyH_take (i := 0) (oi := { dst := some 171, op := Op.move (Operand.tmp 17), type := 9, pos := "law.go:135", after := #[], guard := none }) (v := .string (strOf d)) rfl (by kernel_rfl) (by kernel_rfl) (by kernel_rfl) (fun _ _ _ h => h) (Or.inl ⟨by rfl, by intro w hSw; (try dsimp only at hSw); go_simp⟩) (by assumption) ?_
      try simp only [Act.put, List.setIfInBounds_toArray, List.set_cons_zero, List.set_cons_succ]
      refine wpAnyH_take (i := 1) (oi := { dst := some 172, op := Op.move (Operand.tmp 23), type := 3, pos := "law.go:135", after := #[], guard := none }) (v := .int .i64 (k : Int)) rfl (by kernel_rfl) (by kernel_rfl) (by kernel_rfl) (fun _ _ _ h => h) (Or.inl ⟨by rfl, by intro w hSw; (try dsimp only at hSw); go_simp⟩) (by assumption) ?_
      try simp only [Act.put, List.setIfInBounds_toArray, List.set_cons_zero, List.set_cons_succ]
      refine wpAnyH_take (i := 2) (oi := { dst := some 173, op := Op.slice 9 (Operand.tmp 171) none (some (Operand.tmp 172)) none, type := 9, pos := "law.go:135", after := #[{ on := 0, ground := Ground.data }, { on := 1, ground := Ground.data }], guard := none }) (v := .string ((strOf d).extract 0 k)) rfl (by kernel_rfl) (by kernel_rfl) (by kernel_rfl) (fun _ _ _ h => h) (Or.inl ⟨by rfl, by intro w hSw; (try dsimp only at hSw); go_simp⟩) (by assumption) ?_
      try simp only [Act.put, List.setIfInBounds_toArray, List.set_cons_zero, List.set_cons_succ]
      refine wpAnyH_take (i := 3) (oi := { dst := some 174, op := Op.move (Operand.tmp 33), type := 44, pos := "law.go:135", after := #[], guard := none }) (v := .slice (some ⟨wR.heap.size, 0, none⟩) 8 8) rfl (by kernel_rfl) (by kernel_rfl) (by kernel_rfl) (fun _ _ _ h => h) (Or.inl ⟨by rfl, by intro w hSw; (try dsimp only at hSw); go_simp⟩) (by assumption) ?_
      try simp only [Act.put, List.setIfInBounds_toArray, List.set_cons_zero, List.set_cons_succ]
      refine wpAnyH_take (i := 4) (oi := { dst := some 175, op := Op.move (Operand.tmp 6), type := 3, pos := "law.go:135", after := #[], guard := none }) (v := .int .i64 by_) rfl (by kernel_rfl) (by kernel_rfl) (by kernel_rfl) (fun _ _ _ h => h) (Or.inl ⟨by rfl, by intro w hSw; (try dsimp only at hSw); go_simp⟩) (by assumption) ?_
      try simp only [Act.put, List.setIfInBounds_toArray, List.set_cons_zero, List.set_cons_succ]
      refine wpAnyH_take (i := 5) (oi := { dst := some 176, op := Op.move (Operand.tmp 33), type := 44, pos := "law.go:135", after := #[], guard := none }) (v := .slice (some ⟨wR.heap.size, 0, none⟩) 8 8) rfl (by kernel_rfl) (by kernel_rfl) (by kernel_rfl) (fun _ _ _ h => h) (Or.inl ⟨by rfl, by intro w hSw; (try dsimp only at hSw); go_simp⟩) (by assumption) ?_
      try simp only [Act.put, List.setIfInBounds_toArray, List.set_cons_zero, List.set_cons_succ]
      refine wpAnyH_take (i := 6) (oi := { dst := some 177, op := Op.call { callee := Callee.builtin Builtin.len, args := #[Operand.tmp 176], argTypes := #[44] }, type := 3, pos := "law.go:135", after := #[{ on := 5, ground := Ground.data }], guard := none }) (v := .int .i64 8) rfl (by kernel_rfl) (by kernel_rfl) (by kernel_rfl) (fun _ _ _ h => h) (Or.inl ⟨by rfl, by intro w hSw; (try dsimp only at hSw); go_simp⟩) (by assumption) ?_
      try simp only [Act.put, List.setIfInBounds_toArray, List.set_cons_zero, List.set_cons_succ]
      refine wpAnyH_take (i := 11) (oi := { dst := some 182, op := Op.move (Operand.tmp 17), type := 9, pos := "law.go:135", after := #[], guard := none }) (v := .string (strOf d)) rfl (by kernel_rfl) (by kernel_rfl) (by kernel_rfl) (fun _ _ _ h => h) (Or.inl ⟨by rfl, by intro w hSw; (try dsimp only at hSw); go_simp⟩) (by assumption) ?_
      try simp only [Act.put, List.setIfInBounds_toArray, List.set_cons_zero, List.set_cons_succ]
      refine wpAnyH_take (i := 12) (oi := { dst := some 183, op := Op.move (Operand.tmp 23), type := 3, pos := "law.go:135", after := #[], guard := none }) (v := .int .i64 (k : Int)) rfl (by kernel_rfl) (by kernel_rfl) (by kernel_rfl) (fun _ _ _ h => h) (Or.inl ⟨by rfl, by intro w hSw; (try dsimp only at hSw); go_simp⟩) (by assumption) ?_
      try simp only [Act.put, List.setIfInBounds_toArray, List.set_cons_zero, List.set_cons_succ]
      refine wpAnyH_take (i := 13) (oi := { dst := some 184, op := Op.binOp BinOp.add 3 (Operand.tmp 183) (Operand.const (Value.int IntKind.i64 1)) 3, type := 3, pos := "law.go:135", after := #[{ on := 12, ground := Ground.data }], guard := none }) (v := .int .i64 ((k : Int) + 1)) rfl (by kernel_rfl) (by kernel_rfl) (by kernel_rfl) (fun _ _ _ h => h) (Or.inl ⟨by rfl, by intro w hSw; (try dsimp only at hSw); go_simp⟩) (by assumption) ?_
      try simp only [Act.put, List.setIfInBounds_toArray, List.set_cons_zero, List.set_cons_succ]
      refine wpAnyH_take (i := 14) (oi := { dst := some 185, op := Op.slice 9 (Operand.tmp 182) (some (Operand.tmp 184)) none none, type := 9, pos := "law.go:135", after := #[{ on := 11, ground := Ground.data }, { on := 13, ground := Ground.data }], guard := none }) (v := .string ((strOf d).extract (k + 1) (strOf d).size)) rfl (by kernel_rfl) (by kernel_rfl) (by kernel_rfl) (fun _ _ _ h => h) (Or.inl ⟨by rfl, by intro w hSw; (try dsimp only at hSw); go_simp⟩) (by assumption) ?_
      try simp only [Act.put, List.setIfInBounds_toArray, List.set_cons_zero, List.set_cons_succ]
      refine wpAnyH_ready (rs := [7]) (by kernel_rfl) (by simp) ?_
      refine AllReadyH.cons (o := { dst := some 178, op := Op.call { callee := Callee.value (Operand.func 20), args := #[Operand.tmp 175, Operand.tmp 177], argTypes := #[3, 3] }, type := 3, pos := "law.go:135", after := #[{ on := 4, ground := Ground.data }, { on := 6, ground := Ground.data }], guard := none }) rfl (fun K hK => ?_) AllReadyH.nil
      go_simp
      refine (HQ3.out _).mono ?_
      rintro e w' ⟨rfl, rfl⟩
      (try go_simp)
      refine hK.out _ _ (hHeld) (fun hHeld => ?_)
      clear hK K
      try simp only [Act.put, List.setIfInBounds_toArray, List.set_cons_zero, List.set_cons_succ]
      refine wpAnyH_take (i := 8) (oi := { dst := some 179, op := Op.indexAddr 44 (Operand.tmp 174) (Operand.tmp 178), type := 0, pos := "law.go:135", after := #[{ on := 3, ground := Ground.data }, { on := 7, ground := Ground.data }], guard := none }) (v := .pointer (some ⟨wR.heap.size, f, none⟩)) rfl (by kernel_rfl) (by kernel_rfl) (by kernel_rfl) (fun _ _ _ h => h) (Or.inl ⟨by rfl, by intro w hSw; (try dsimp only at hSw); go_simp⟩) (by assumption) ?_
      try simp only [Act.put, List.setIfInBounds_toArray, List.set_cons_zero, List.set_cons_succ]
      refine wpAnyH_take (i := 9) (oi := { dst := some 180, op := Op.load 9 (Operand.tmp 179), type := 9, pos := "law.go:135", after := #[{ on := 8, ground := Ground.data }], guard := none }) (v := .string (strOf ff)) rfl (by kernel_rfl) (by kernel_rfl) (by kernel_rfl) (fun _ _ _ h => h) (Or.inl ⟨by rfl, by intro w hSw; (try dsimp only at hSw); go_simp⟩) (by assumption) ?_
      try simp only [Act.put, List.setIfInBounds_toArray, List.set_cons_zero, List.set_cons_succ]
      refine wpAnyH_take (i := 10) (oi := { dst := some 181, op := Op.binOp BinOp.add 9 (Operand.tmp 173) (Operand.tmp 180) 9, type := 9, pos := "law.go:135", after := #[{ on := 2, ground := Ground.data }, { on := 9, ground := Ground.data }], guard := none }) (v := .string ((strOf d).extract 0 k ++ strOf ff)) rfl (by kernel_rfl) (by kernel_rfl) (by kernel_rfl) (fun _ _ _ h => h) (Or.inl ⟨by rfl, by intro w hSw; (try dsimp only at hSw); go_simp⟩) (by assumption) ?_
      try simp only [Act.put, List.setIfInBounds_toArray, List.set_cons_zero, List.set_cons_succ]
      refine wpAnyH_take (i := 15) (oi := { dst := some 186, op := Op.binOp BinOp.add 9 (Operand.tmp 181) (Operand.tmp 185) 9, type := 9, pos := "law.go:135", after := #[{ on := 10, ground := Ground.data }, { on := 14, ground := Ground.data }], guard := none }) (v := .string ((strOf d).extract 0 k ++ strOf ff ++ (strOf d).extract (k + 1) (strOf d).size)) rfl (by kernel_rfl) (by kernel_rfl) (by kernel_rfl) (fun _ _ _ h => h) (Or.inl ⟨by rfl, by intro w hSw; (try dsimp only at hSw); go_simp⟩) (by assumption) ?_
      try simp only [Act.put, List.setIfInBounds_toArray, List.set_cons_zero, List.set_cons_succ]
      refine wpAnyH_ready (rs := [16]) (by kernel_rfl) (by simp) ?_
      refine AllReadyH.cons (o := { dst := some 187, op := Op.call { callee := Callee.value (Operand.func 18), args := #[Operand.tmp 186], argTypes := #[9] }, type := 29, pos := "law.go:135", after := #[{ on := 15, ground := Ground.data }, { on := 7, ground := Ground.chain }], guard := none }) rfl (fun K hK => ?_) AllReadyH.nil
      go_simp
      refine (HRE.out _).mono ?_
      rintro e wS ⟨rfl, h⟩
      have kS : Kp [] wN wS := hHeld.2.2.trans0 h
      have hS := h.heap hHeld.2.1 (by simp)
      clear h
      (try go_simp)
      refine hK.out _ _ (⟨HFC.out _ hS, hS, kS⟩) (fun hHeld => ?_)
      clear hK K
      try simp only [Act.put, List.setIfInBounds_toArray, List.set_cons_zero, List.set_cons_succ]
      refine wpAnyH_take (i := 17) (oi := { dst := some 170, op := Op.move (Operand.tmp 187), type := 29, pos := "law.go:135", after := #[{ on := 16, ground := Ground.data }], guard := none }) (v := .tuple #[.string (strOf S4), .int .i64 250]) rfl (by kernel_rfl) (by kernel_rfl) (by kernel_rfl) (fun _ _ _ h => h) (Or.inl ⟨by rfl, by intro w hSw; (try dsimp only at hSw); go_simp⟩) (by assumption) ?_
      try simp only [Act.put, List.setIfInBounds_toArray, List.set_cons_zero, List.set_cons_succ]
      refine wpAnyH_take (i := 18) (oi := { dst := some 188, op := Op.extract (Operand.tmp 170) 0, type := 9, pos := "law.go:135", after := #[{ on := 17, ground := Ground.data }], guard := none }) (v := .string (strOf S4)) rfl (by kernel_rfl) (by kernel_rfl) (by kernel_rfl) (fun _ _ _ h => h) (Or.inl ⟨by rfl, by intro w hSw; (try dsimp only at hSw); go_simp⟩) (by assumption) ?_
      try simp only [Act.put, List.setIfInBounds_toArray, List.set_cons_zero, List.set_cons_succ]
      refine wpAnyH_take (i := 19) (oi := { dst := some 189, op := Op.extract (Operand.tmp 170) 1, type := 28, pos := "law.go:135", after := #[{ on := 17, ground := Ground.data }, { on := 20, ground := Ground.gcOnly Departure.lateStores }], guard := none }) (v := .int .i64 250) rfl (by kernel_rfl) (by kernel_rfl) (by kernel_rfl) (fun _ _ _ h => h) (Or.inl ⟨by rfl, by intro w hSw; (try dsimp only at hSw); go_simp⟩) (by assumption) ?_
      try simp only [Act.put, List.setIfInBounds_toArray, List.set_cons_zero, List.set_cons_succ]
      refine wpAnyH_take (i := 20) (oi := { dst := some 34, op := Op.assign (Operand.tmp 188), type := 9, pos := "law.go:135", after := #[{ on := 18, ground := Ground.data }, { on := 16, ground := Ground.chain }, { on := 0, ground := Ground.phase }, { on := 1, ground := Ground.phase }, { on := 2, ground := Ground.phase }, { on := 3, ground := Ground.phase }, { on := 4, ground := Ground.phase }, { on := 5, ground := Ground.phase }, { on := 6, ground := Ground.phase }, { on := 7, ground := Ground.phase }, { on := 8, ground := Ground.phase }, { on := 9, ground := Ground.phase }, { on := 10, ground := Ground.phase }, { on := 11, ground := Ground.phase }, { on := 12, ground := Ground.phase }, { on := 13, ground := Ground.phase }, { on := 14, ground := Ground.phase }, { on := 15, ground := Ground.phase }, { on := 16, ground := Ground.phase }, { on := 17, ground := Ground.phase }, { on := 18, ground := Ground.phase }, { on := 19, ground := Ground.textOnly Departure.lateStores }], guard := none }) (v := .string (strOf S4)) rfl (by kernel_rfl) (by kernel_rfl) (by kernel_rfl) (fun _ _ _ h => h) (Or.inl ⟨by rfl, by intro w hSw; (try dsimp only at hSw); go_simp⟩) (by assumption) ?_
      try simp only [Act.put, List.setIfInBounds_toArray, List.set_cons_zero, List.set_cons_succ]
      refine wpAnyH_take (i := 21) (oi := { dst := some 35, op := Op.assign (Operand.tmp 189), type := 28, pos := "law.go:135", after := #[{ on := 19, ground := Ground.data }, { on := 20, ground := Ground.chain }, { on := 0, ground := Ground.phase }, { on := 1, ground := Ground.phase }, { on := 2, ground := Ground.phase }, { on := 3, ground := Ground.phase }, { on := 4, ground := Ground.phase }, { on := 5, ground := Ground.phase }, { on := 6, ground := Ground.phase }, { on := 7, ground := Ground.phase }, { on := 8, ground := Ground.phase }, { on := 9, ground := Ground.phase }, { on := 10, ground := Ground.phase }, { on := 11, ground := Ground.phase }, { on := 12, ground := Ground.phase }, { on := 13, ground := Ground.phase }, { on := 14, ground := Ground.phase }, { on := 15, ground := Ground.phase }, { on := 16, ground := Ground.phase }, { on := 17, ground := Ground.phase }, { on := 18, ground := Ground.phase }, { on := 19, ground := Ground.phase }, { on := 20, ground := Ground.phase }], guard := none }) (v := .int .i64 250) rfl (by kernel_rfl) (by kernel_rfl) (by kernel_rfl) (fun _ _ _ h => h) (Or.inl ⟨by rfl, by intro w hSw; (try dsimp only at hSw); go_simp⟩) (by assumption) ?_
      try simp only [Act.put, List.setIfInBounds_toArray, List.set_cons_zero, List.set_cons_succ]
      refine wpAnyH_done (by kernel_rfl) ?_ _
      refine NoPanic.normal ?_
      clear hHeld
      go_wp2_with fail
      go_ret
      exact ⟨rfl, Kp.trans0 kN kS⟩
end Go.Proofs.YtkceaepbjdfccaaDoor
