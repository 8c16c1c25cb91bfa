/-
'ParcelWhole': the walk, over whatever tells of a text.
-/
import Derived.Test.YtkceaepbjdfccaaDoorLawW0
namespace Go.Proofs.YtkceaepbjdfccaaDoor
open Go.RowKit
set_option maxRecDepth 100000 in
set_option maxHeartbeats 4000000 in
theorem whole_any (mk : List UInt8 → List UInt8) (n seed id : Int) (v : Value) (order : List Int) (w : World) (hn : -9223372036854775808 ≤ n ∧ n ≤ 9223372036854775807) (hsd : -9223372036854775808 ≤ seed ∧ seed ≤ 9223372036854775807) (hid : 0 ≤ id ∧ id < 4294967296)
    (hO : Rd w v (zv order)) (hO3 : ∀ x ∈ order, -9223372036854775808 ≤ x ∧ x ≤ 9223372036854775807) (ml : ∀ l, (mk l).length = 8)
    (mc : ∀ W v l, Kp [] w W → Rd W v (bv l) → l.length ≤ 562949953421312 → Calls Tryd.prog 43 #[v] W fun e w' => e = .returned (.agg (bv (mk l)).toArray) ∧ Kp [] W w')
    (sp : ∀ W v l, Kp [] w W → Rd W v (bv l) → l.length ≤ 31808 → Calls Tryd.prog 23 #[.int .u32 id, v] W fun e w' => ∃ v', e = .returned (.tuple #[v', .int .i64 0]) ∧ Pts w' W.heap.size v' (partsM mk id l) ∧ Kp [] W w') :
    Calls Tryd.prog 9 #[.int .i64 n, .int .i64 seed, .int .u32 id, v] w fun e w' => e = .returned (.bool true) ∧ Kp [] w w' := by
  obtain ⟨ao, co, rfl⟩ := hO.form
  rw [zv_len] at hO ⊢
  obtain ⟨N, hN1, hN2⟩ := fold_mod n 31809 hn (by decide)
  have hid0 := hid.1
  have hid1 := hid.2
  have HN1 := Lib.hid hN1
  have HLO := Lib.hid (fun W => long_any N seed W (by omega) hsd)
  have HO := Lib.hid hO
  have HO3 := Lib.hid hO3
  have HML := Lib.hid ml
  have HMC := Lib.hid mc
  have HSP := Lib.hid sp
  have HID := Lib.hid hid
  obtain ⟨hn0, hn1⟩ := hn
  clear hN1 hsd hO hO3 ml mc sp hid
  go_enter Tryd.func9, Tryd.ntmps9
  go_upto_region 5 with (first
    | (go_at_call 22; rw [HN1.out]; generalize (if n < wrap64 (-wrap64 (n + 1)) then wrap64 (-wrap64 (n + 1)) else n) = fx at *; generalize wrap64 (-wrap64 (n + 1)) = fy at *; generalize wrap64 (n + 1) = fz at *; go_must (refine (HLO.out _).mono ?_; rintro e w1 ⟨tv, rfl, ho1, hk1⟩; obtain ⟨ta, tc, rfl⟩ := ho1.rd.form; rw [show (bv (longL N seed)).length = N from (bv_length _).trans (longL_len _ _)] at ho1 ⊢; have HO1 := Lib.hid ho1; have HK1 := Lib.hid hk1; have HL := Lib.hid (longL_len N seed); generalize longL N seed = l at *; clear ho1 hk1))
    | (go_at_call 23; go_must (refine (HSP.out _ _ l HK1.out HO1.out.rd (by rw [HL.out]; omega)).mono ?_; rintro e w2 ⟨pv2, rfl, hp2, hk2⟩; obtain ⟨g, pc, rfl, hpq⟩ := hp2.shape (partsM_ne mk id l); have HPQ := Lib.hid hpq; have HK2 := Lib.hid (HK1.out.trans0 hk2); have HT2 := Lib.hid (HO1.out.kp0 hk2); have HLS := Lib.hid (partsM_len mk id l); have HLG : Hid (∀ i, i < (partsM mk id l).length → (partsM mk id l)[i]? = some (partM mk id l i)) := Lib.hid (fun i hi => partsM_get (by rw [← partsM_len mk id l]; exact hi)); have hc1 : 1 ≤ (partsM mk id l).length := (by rw [partsM_len]; exact (cntP_small (by rw [HL.out]; omega)).1); have hc2 : (partsM mk id l).length ≤ 64 := (by rw [partsM_len]; exact (cntP_small (by rw [HL.out]; omega)).2); generalize partsM mk id l = ls at *; clear hp2 hk2 hpq HO1; generalize hm : ls.length = m at *; have HM := Lib.hid hm; clear hm; have hc3 : ((m : Int) == 0) = false := (by rw [beq_eq_false_iff_ne]; omega); have hc4 : decide ((64 : Int) < (m : Int)) = false := (by simp; omega)))
    | (go_at_call 25; go_must (refine (new1_any 1 _ (by decide) (by decide)).mono ?_; rintro e w3 ⟨t, F, rfl, htr3, hf3, hk3⟩; have HW := Lib.hid (LW.mk (HK2.out.trans0 hk3) htr3 (HPQ.out _ _ hk3 hf3) (HT2.out.rsN hk3 hf3) (fun b hb => Nat.le_trans HK2.out.size (hf3 b hb))); clear htr3 hf3 hk3))
    | fail)
  go_wp2_with fail
  clear hc3 hc4
  have HPL : Hid (∀ i, i < m → ls[i]? = some (partM mk id l i) ∧ 15 ≤ (partM mk id l i).length ∧ (partM mk id l i).length ≤ 512 ∧ (i < m - 1 → (partM mk id l i).length = 512) ∧ (partM mk id l i).drop 15 = contP l i) := Lib.hid (fun i hi => by
    have h1 := partM_len HML.out id l i
    have h2 := contP_length l i
    have h3 : m = cntP l.length := HLS.out
    have h4 : cntP l.length = max 1 ((l.length + 496) / 497) := rfl
    exact ⟨HLG.out i hi, by omega, by omega, fun h => by have h5 : i + 1 < m := (by omega); have h6 : i + 1 < (l.length + 496) / 497 := (by rw [h3, h4] at h5; omega); omega, (partM_drop HML.out id l i).1⟩)
  have HSJ : Hid (∀ (J c : List UInt8), strOf J ++ strOf c = strOf (J ++ c)) := Lib.hid strOf_append
  have HJ0 : Hid (strOf (l.take 0) = ⟨#[]⟩) := Lib.hid (by simp [strOf])
  have HJS : Hid (∀ k, l.take (497 * k) ++ contP l k = l.take (497 * (k + 1))) := Lib.hid (fun k => by unfold contP; rw [show 497 * (k + 1) = 497 * k + 497 by omega, List.take_add])
  go_loopw [14, 15, 16] (fun js lv i wr => ∃ (k : Nat) (J : ByteArray), k ≤ m ∧ i = .int .i64 k ∧ js = .string J ∧ Hid (J = strOf (l.take (497 * k)) ∧ Own wr w3.heap.size 3 lv (nv (List.range k)) ∧ Kp [] w3 wr)) (fun _ _ i _ => m - (intOf i).toNat)
  case atStart => exact ⟨0, _, Nat.zero_le _, rfl, rfl, Lib.hid ⟨by rw [Nat.mul_zero, HJ0.out], Own.nil _ _ _, Kp.refl _ _⟩⟩
  case round =>
    obtain ⟨k, J, hk, rfl, rfl, HR0⟩ := hrel
    have HR := Lib.hid HR0.out.2
    have HJ := Lib.hid HR0.out.1
    clear HR0
    by_cases hlt : k < m
    · have HRW := Lib.hid (HW.out.kp0 HR.out.2)
      obtain ⟨e1, e2, e3, e4, e5⟩ := HPL.out k hlt
      obtain ⟨ap, cp, hcell, hrs⟩ := HRW.out.pq.at e1
      obtain ⟨a', n', c', hsl, hrd⟩ := run_subb_l el_byt hrs.r 15 (by decide) (by omega)
      rw [show (15 : Int).toNat = 15 from rfl, e5] at hrd
      have hcv := run_str (P := Tryd.prog) Tryd.underlying27 Tryd.underlying5 Tryd.underlying9 hrd
      obtain ⟨cs, hcs⟩ : ∃ cs, cs = strOf (contP l k) := ⟨_, rfl⟩
      rw [← hcs] at hcv
      have hjs : J.size + cs.size ≤ 9223372036854775807 := by
        rw [HJ.out, hcs, strOf_size, strOf_size]
        have h1 := contP_len l k
        have h2 : (l.take (497 * k)).length ≤ l.length := by rw [List.length_take]; omega
        have h3 := HL.out
        omega
      have HCS := Lib.hid hcs
      clear hcs
      have HJK := Lib.hid (HJS.out k)
      have HRG : Hid (nv (List.range (k + 1)) = nv (List.range k) ++ [.int .i64 (k : Int)]) := Lib.hid (by rw [List.range_succ]; simp [nv])
      generalize (partM mk id l k).length = pl at *
      have d1 : decide ((pl : Int) < 15) = false := by simp; omega
      have d2 : decide ((512 : Int) < (pl : Int)) = false := by simp; omega
      clear e1 e2 e3 e5 hrs hrd
      by_cases hlast : k < m - 1
      · have d3 : decide ((k : Int) < (m : Int) - 1) = true := by simp; omega
        have d4 : ((pl : Int) != 512) = false := by rw [e4 hlast]; rfl
        clear e4 hlast
        go_wp2_with (first
          | (at_builtin; (refine wpl_append el_int rfl _ _ rfl rfl rfl (HR.out.1.kp0 (by (repeat (first | exact Kp.refl _ _ | assumption | refine Kp.drewN ?_ _ | refine Kp.drew ?_ | refine Kp.alloc ?_ _ | refine Kp.trans0 ?_ (by assumption))))) (rd_lit1 _ _ _) (by simp [Value.oneCell']) (by rw [nv_len]; simp; omega) (by rw [nv_len]; simp; omega) (by have := HR.out.2.size; simp; omega) ?_; intro v1 w1' ho1 hg1; have HO1' := Lib.hid ho1; have HK1' : Hid (Kp [] w3 w1') := Lib.hid (((HR.out.2.alloc _)).grown hg1 (fun b hb => .inr (HR.out.1.lt hb).1)); clear ho1 hg1))
          | fail)
        go_roundw
        case rel => exact ⟨k + 1, _, by omega, by go_num, rfl, Lib.hid ⟨by rw [HJ.out, HCS.out, strOf_append, HJK.out], by rw [HRG.out]; simpa [nv] using HO1'.out, HK1'.out⟩⟩
        case measure => simp [intOf]; omega
      · have d3 : decide ((k : Int) < (m : Int) - 1) = false := by simp; omega
        clear e4 hlast
        go_wp2_with (first
          | (at_builtin; (refine wpl_append el_int rfl _ _ rfl rfl rfl (HR.out.1.kp0 (by (repeat (first | exact Kp.refl _ _ | assumption | refine Kp.drewN ?_ _ | refine Kp.drew ?_ | refine Kp.alloc ?_ _ | refine Kp.trans0 ?_ (by assumption))))) (rd_lit1 _ _ _) (by simp [Value.oneCell']) (by rw [nv_len]; simp; omega) (by rw [nv_len]; simp; omega) (by have := HR.out.2.size; simp; omega) ?_; intro v1 w1' ho1 hg1; have HO1' := Lib.hid ho1; have HK1' : Hid (Kp [] w3 w1') := Lib.hid (((HR.out.2.alloc _)).grown hg1 (fun b hb => .inr (HR.out.1.lt hb).1)); clear ho1 hg1))
          | fail)
        go_roundw
        case rel => exact ⟨k + 1, _, by omega, by go_num, rfl, Lib.hid ⟨by rw [HJ.out, HCS.out, strOf_append, HJK.out], by rw [HRG.out]; simpa [nv] using HO1'.out, HK1'.out⟩⟩
        case measure => simp [intOf]; omega
    · have hkm : k = m := by omega
      subst hkm
      have hJl : J = strOf l := by
        rw [HJ.out, List.take_of_length_le]
        have h1 : k = cntP l.length := HLS.out
        unfold cntP at h1
        omega
      subst hJl
      have HRW := Lib.hid (HW.out.kp0 HR.out.2)
      have HL0 := Lib.hid (HR.out.1)
      clear HJ HJ0 HJS HSJ
      obtain ⟨la, lc, rfl⟩ := HR.out.1.rd.form
      rw [nv_len, List.length_range] at HR HL0 ⊢
      have hcv := run_str (P := Tryd.prog) Tryd.underlying27 Tryd.underlying5 Tryd.underlying9 HRW.out.tx.r
      obtain ⟨e1, e2, e3, e4, e5⟩ := HPL.out (k - 1) (by omega)
      obtain ⟨ap, cp, hcell, hrs⟩ := HRW.out.pq.at e1
      have hne15 : 1 < k → (partM mk id l (k - 1)).length ≠ 15 := fun h => by
        have h1 := partM_len HML.out id l (k - 1)
        have h2 := contP_length l (k - 1)
        have h3 : k = cntP l.length := HLS.out
        unfold cntP at h3
        omega
      generalize (partM mk id l (k - 1)).length = pl at *
      clear e1 e2 e3 e4 e5 hrs
      have HC1 : Hid (1 ≤ k ∧ k ≤ 64) := Lib.hid ⟨hc1, hc2⟩
      clear hn0 hn1
      by_cases h1k : 1 < k
      · have d1 : decide ((1 : Int) < (k : Int)) = true := by simp; omega
        have d2 : ((pl : Int) == 15) = false := by rw [beq_eq_false_iff_ne]; have := hne15 h1k; omega
        clear hne15
        go_upto_region 18 with fail
        clear d1 d2 h1k
        go_wp2_with fail
        clear hcell hcv
        have HST : Hid (LW w wr F t 1 (Tof mk id l bob (List.range k)) g ls (.slice ta N tc) l ∧ Rd wr (.slice la k lc) (nv (List.range k)) ∧ Sf wr F (.slice la k lc)) := Lib.hid ⟨by rw [show Tof mk id l bob (List.range k) = [] by unfold Tof; rw [if_pos (by rw [show k = cntP l.length from HLS.out])]]; exact HRW.out, HL0.out.rd, fun b hb => ⟨fun hf => absurd (HW.out.tr.lt b hf) (Nat.not_lt.2 (HL0.out.lt hb).1), (HL0.out.lt hb).2⟩⟩
        clear HL0 HR HRW
        go_loopw [15, 17] (fun lv iv wx => ∃ (j r : Nat) (left : List Nat) (F' : Nat → Prop) (a : Option Addr) (c : Nat), iv = .int .i64 j ∧ lv = .slice a r c ∧ j + r = k ∧ Hid (left.length = r ∧ LW w wx F' t 1 (Tof mk id l bob left) g ls (.slice ta N tc) l ∧ Rd wx (.slice a r c) (nv left) ∧ Sf wx F' (.slice a r c) ∧ left.Nodup ∧ ∀ i ∈ left, i < k)) (fun lv _ _ => lenOf lv)
        case atStart => exact ⟨0, k, List.range k, F, la, lc, rfl, rfl, by omega, Lib.hid ⟨List.length_range, HST.out.1, HST.out.2.1, HST.out.2.2, List.nodup_range, fun i hi => List.mem_range.1 hi⟩⟩
        case round =>
          clear HST HW HK1 HK2
          obtain ⟨j, r, left, F', a, c, rfl, rfl, hj, HR0⟩ := hrel
          have HRL := Lib.hid HR0.out.1
          have HR := Lib.hid HR0.out.2
          clear HR0
          by_cases hz : r = 0
          · obtain rfl : left = [] := List.eq_nil_of_length_eq_zero (by rw [HRL.out]; exact hz)
            have hdr : decide (0 < r) = false := by simp; omega
            have HLN : Hid (l.length ≤ 31808) := Lib.hid (by rw [HL.out]; omega)
            have HWR := Lib.hid HR.out.1
            have HT1 : Hid (∀ W F, LW w W F t 1 (Tof mk id l bob []) g ls (.slice ta N tc) l → Calls Tryd.prog 28 #[.pointer (some ⟨t, 0, none⟩), .string ⟨#[98, 111, 98]⟩, .int .u32 id] W fun e w' => ∃ a' c', e = .returned (.tuple #[.slice a' N c', .int .i64 0]) ∧ Rs w' F (.slice a' N c') l ∧ LW w w' F t 1 [] g ls (.slice ta N tc) l) := Lib.hid (fun W F h => (lw_take h bob_len HID.out.1 HID.out.2 (take_all HLN.out bob_ok)).mono fun e w' ⟨v, h1, h2, h3, _⟩ => by
              obtain ⟨a', c', rfl⟩ := h2.rd.form
              rw [bv_length] at h1 h2
              simp only [HL.out] at h1 h2
              exact ⟨a', c', h1, h2.rs h.tr.lt, h3⟩)
            have HT2 : Hid (∀ W F, LW w W F t 1 [] g ls (.slice ta N tc) l → Calls Tryd.prog 28 #[.pointer (some ⟨t, 0, none⟩), .string ⟨#[98, 111, 98]⟩, .int .u32 id] W fun e w' => ∃ v, e = .returned (.tuple #[v, .int .i64 201]) ∧ LW w w' F t 1 [] g ls (.slice ta N tc) l ∧ ∃ L, (∀ b ∈ L, F b) ∧ Kp L W w') := Lib.hid (fun W F h => (lw_take h bob_len HID.out.1 HID.out.2 (take_gone bob_ok)).mono fun e w' ⟨v, h1, _, h3, h4⟩ => ⟨v, h1, h3, h4⟩)
            have HT3 : Hid (∀ W F, LW w W F t 1 [] g ls (.slice ta N tc) l → Calls Tryd.prog 29 #[.pointer (some ⟨t, 0, none⟩)] W fun e w' => e = .returned (.int .i64 0) ∧ W = w') := Lib.hid (fun W F h => trayLen_any F t 1 [] W h.tr)
            have HRC : Hid (∀ W a c, Rd W (.slice a N c) (bv l) → (convert 27 9 (.slice a N c)).run Tryd.prog W = .ok (.string (strOf l)) W) := Lib.hid (fun W a c h => run_str Tryd.underlying27 Tryd.underlying5 Tryd.underlying9 h)
            clear hz HR hj HRL
            go_wp2_with (first
              | (go_at_call 28; (with_reducible refine (HT2.out _ _ HW8.out).mono ?_); rintro e w9 ⟨v9, rfl, hw9, L9, hL9, hk9⟩; have HW9 := Lib.hid hw9; have hcA := HRC.out w9 _ _ (HG8.out.kp hk9 hL9).r; have hcB := HRC.out w9 _ _ hw9.tx.r; clear hw9 hL9 hk9)
              | (go_at_call 28; go_must (refine (HT1.out _ _ HWR.out).mono ?_; rintro e w8 ⟨a8, c8, rfl, hg8, hw8⟩; have HW8 := Lib.hid hw8; have HG8 := Lib.hid hg8; clear hw8 hg8))
              | (go_at_call 29; go_must (refine (HT3.out _ _ HW9.out).mono ?_; rintro e wl ⟨rfl, rfl⟩))
              | fail)
            go_ret
            exact ⟨rfl, HW9.out.k⟩
          · have hpos : (0 : Int) < (r : Int) := by omega
            have hjl : j ≤ 64 := by have := HC1.out; omega
            have hdr : decide (0 < r) = true := by simp; omega
            have HLL : Hid (r ≤ k) := Lib.hid (by omega)
            have HZ := Lib.hid hz
            have HJ2 := Lib.hid hj
            have HWY := Lib.hid HR.out.1.k
            clear hz hj
            go_upto_if 148 with fail
            go_cut [18] (fun kv w' => ∃ q : Nat, q < r ∧ kv = .int .i64 q ∧ Hid (Kp [] wr w'))
            case first =>
              by_cases hjo : j < order.length
              · have hjN : decide (j < order.length) = true := by simp; omega
                rw [hjN]
                clear hjN
                have hjo2 : (j : Int) < (order.length : Int) := by omega
                have hj0 : (0 : Int) ≤ (j : Int) := by omega
                obtain ⟨ob', oo, hao, hoc⟩ := (HO.out.kp0 HWY.out).zint hjo
                subst hao
                obtain ⟨q, hq1, hq2⟩ := fold_mod order[j] (r : Int) (HO3.out _ (List.getElem_mem hjo)) hpos
                have HQ := Lib.hid hq1
                generalize order[j] = ox at *
                clear hq1
                go_wp2_with fail
                go_quiet (fail)
                rw [HQ.out]
                generalize (if ox < wrap64 (-wrap64 (ox + 1)) then wrap64 (-wrap64 (ox + 1)) else ox) = f1 at *
                generalize wrap64 (-wrap64 (ox + 1)) = f2 at *
                generalize wrap64 (ox + 1) = f3 at *
                clear hjo hjo2 hoc HQ
                go_wp2_with fail
                go_meet
                exact ⟨q, by omega, rfl, Lib.hid ((Kp.refl [] wr).drewN nq)⟩
              · have hjN : decide (j < order.length) = false := by simp; omega
                rw [hjN]
                clear hjN
                go_wp2_with fail
                go_meet
                exact ⟨0, by have := HZ.out; omega, rfl, Lib.hid (Kp.refl _ _)⟩
            case rest =>
              obtain ⟨q, hq, rfl, HKQ⟩ := hcut
              have HWC := Lib.hid (HR.out.1.kp0 HKQ.out)
              have hlr := HR.out.2.1.kp0 HKQ.out
              have HND := Lib.hid HR.out.2.2.2.1
              have HMEM := Lib.hid HR.out.2.2.2.2
              obtain ⟨x, hx⟩ : ∃ x, left[q]? = some x := ⟨_, List.getElem?_eq_getElem (by rw [HRL.out]; exact hq)⟩
              have hxk : x < k := HMEM.out x (List.mem_of_getElem? hx)
              obtain ⟨lb, lo, hla, hlc⟩ := hlr.num hx
              subst hla
              obtain ⟨a5, n5, c5, hs5, hr5⟩ := run_sub_h el_int el_int.ht hlr (q : Int) (by omega) (by omega)
              obtain ⟨a6, n6, c6, hs6, hr6⟩ := run_sub_l el_int el_int.ht hlr ((q : Int) + 1) (by omega) (by omega)
              have HR5 : Hid (Rd wc (.slice a5 n5 c5) (nv (left.take q))) := Lib.hid (by rw [show nv (left.take q) = (nv left).take (q : Int).toNat by simp [nv, List.map_take]]; exact hr5)
              have HR6 : Hid (Rd wc (.slice a6 n6 c6) (nv (left.drop (q + 1)))) := Lib.hid (by rw [show nv (left.drop (q + 1)) = (nv left).drop ((q : Int) + 1).toNat by rw [show ((q : Int) + 1).toNat = q + 1 by omega]; simp [nv, List.map_drop]]; exact hr6)
              have HX := Lib.hid hx
              obtain ⟨r2, hr2⟩ : ∃ r2, r = r2 + 1 := ⟨r - 1, by omega⟩
              have HR2 : Hid ((left.eraseIdx q).length = r2) := Lib.hid (by rw [List.length_eraseIdx, if_pos (by rw [HRL.out]; exact hq), HRL.out]; omega)
              have HER : Hid (nv (left.take q) ++ nv (left.drop (q + 1)) = nv (left.eraseIdx q)) := Lib.hid (by rw [List.eraseIdx_eq_take_drop_succ]; simp [nv])
              have HTL : Hid ((nv (left.take q)).length ≤ 64 ∧ (nv (left.drop (q + 1))).length ≤ 64) := Lib.hid (by
                have h1 := HRL.out
                have h2 := HLL.out
                have h3 := HC1.out
                rw [nv_len, nv_len, List.length_take, List.length_drop]
                omega)
              obtain ⟨e1, e2, e3, _, _⟩ := HPL.out x hxk
              have HPX := Lib.hid e1
              have HLN : Hid (l.length ≤ 31808) := Lib.hid (by rw [HL.out]; omega)
              have HK0 : Hid (k = cntP l.length) := HLS
              have HMEM2 : Hid (∀ i ∈ left, i < cntP l.length) := Lib.hid (fun i hi => by rw [← HK0.out]; exact HMEM.out i hi)
              have HAS := Lib.hid (add_step HML.out HID.out.1 HID.out.2 HLN.out bob_ok HND.out HMEM2.out HX.out)
              have HAA := Lib.hid (add_again HML.out HID.out.1 HID.out.2 HLN.out bob_ok HND.out HMEM2.out HX.out)
              have HNE : Hid (left.eraseIdx q ≠ List.range (cntP l.length)) := Lib.hid (by
                rcases cut_ne (l := l) HX.out with h | h
                · exact h
                · exact absurd (nodup_le HND.out HMEM2.out) h)
              have HND2 : Hid ((left.eraseIdx q).Nodup) := Lib.hid (HND.out.sublist (List.eraseIdx_sublist _ _))
              have HMM2 : Hid (∀ i ∈ left.eraseIdx q, i < cntP l.length) := Lib.hid (fun i hi => HMEM2.out i (List.mem_of_mem_eraseIdx hi))
              have HMI := Lib.hid (miss_step (mk := mk) (id := id) bob_ok HNE.out)
              have HML2 := Lib.hid (missL_psOf l HND2.out HMM2.out)
              generalize hpl : (partM mk id l x).length = pl at *
              have HPLL := Lib.hid hpl
              have HR2I : Hid (r = r2 + 1) := Lib.hid hr2
              have hq64 : q < 64 := by have h1 := HLL.out; have h2 := HC1.out; omega
              clear hpl hx hlr hr5 hr6 e1 HR hr2 hdr hpos
              have HA1 : Hid (∀ W F a c, LW w W F t 1 (Tof mk id l bob left) g ls (.slice ta N tc) l → Rd W (.slice a pl c) (bv (partM mk id l x)) → Calls Tryd.prog 26 #[.pointer (some ⟨t, 0, none⟩), .string ⟨#[98, 111, 98]⟩, .slice a pl c] W fun e w' => e = .returned (.tuple #[.int .u32 id, .bool (decide (r2 = 0)), .int .i64 0]) ∧ LW w w' (Fn F W w') t 1 (Tof mk id l bob (left.eraseIdx q)) g ls (.slice ta N tc) l ∧ ∃ L, (∀ b ∈ L, F b) ∧ Kp L W w') := Lib.hid (fun W F a c h hv => by
                have := lw_add HML.out HMC.out h bob_len hv (by rw [HPLL.out]; omega) HAS.out
                rw [HR2.out] at this
                exact this)
              have HA2 : Hid (∀ W F a c, LW w W F t 1 (Tof mk id l bob (left.eraseIdx q)) g ls (.slice ta N tc) l → Rd W (.slice a pl c) (bv (partM mk id l x)) → Calls Tryd.prog 26 #[.pointer (some ⟨t, 0, none⟩), .string ⟨#[98, 111, 98]⟩, .slice a pl c] W fun e w' => e = .returned (.tuple #[.int .u32 0, .bool false, .int .i64 151]) ∧ LW w w' (Fn F W w') t 1 (Tof mk id l bob (left.eraseIdx q)) g ls (.slice ta N tc) l ∧ ∃ L, (∀ b ∈ L, F b) ∧ Kp L W w') := Lib.hid (fun W F a c h hv => lw_add HML.out HMC.out h bob_len hv (by rw [HPLL.out]; omega) HAA.out)
              have HA3 : Hid (∀ W F, LW w W F t 1 (Tof mk id l bob (left.eraseIdx q)) g ls (.slice ta N tc) l → Calls Tryd.prog 27 #[.pointer (some ⟨t, 0, none⟩), .string ⟨#[98, 111, 98]⟩, .int .u32 id] W fun e w' => ∃ a c, e = .returned (.tuple #[.slice a r2 c, .int .i64 0]) ∧ LW w w' F t 1 (Tof mk id l bob (left.eraseIdx q)) g ls (.slice ta N tc) l ∧ Kp [] W w') := Lib.hid (fun W F h => (lw_missing h bob_len HID.out.1 HID.out.2 HMI.out).mono fun e w' ⟨v, h1, h2, h3, h4⟩ => by
                obtain ⟨a', c', rfl⟩ := h2.rd.form
                rw [nv_len] at h1
                simp only at h1
                rw [← HK0.out] at *
                rw [HML2.out, HR2.out] at h1
                exact ⟨a', c', h1, h3, h4⟩)
              by_cases hz2 : r2 = 0
              · have db : decide (r2 = 0) = true := decide_eq_true hz2
                rw [db] at HA1
                have hb1 : (r2 == 0) = true := by simp [hz2]
                have hb2 : ((r2 : Int) == 0) = true := by simp [hz2]
                have hb3 : decide (0 < r2) = false := by simp [hz2]
                clear hz2 db
                go_wp2_with (first
                  | (at_builtin; (refine wpl_append el_int rfl (.tmp 167) (.tmp 170) rfl rfl rfl (Own.nil wc wc.heap.size _) HR5.out (nv_one _) (by have := HTL.out; simp; omega) (by have := HTL.out; simp; omega) (Nat.le_refl _) ?_; intro v1 w1' ho1 hg1; have HO1' := Lib.hid ho1; have HK1' : Hid (Kp [] wc w1') := Lib.hid ((Kp.refl [] wc).grown hg1 (fun b hb => by cases hb)); clear ho1 hg1))
                  | (at_builtin; (refine wpl_append el_int rfl (.tmp 172) (.tmp 176) rfl rfl rfl HO1'.out (HR6.out.kp0 HK1'.out) (nv_one _) (by have := HTL.out; simp only [List.nil_append]; omega) (by have := HTL.out; simp only [List.nil_append]; omega) HK1'.out.size ?_; intro v2 w2' ho2 hg2; rw [List.nil_append, HER.out] at ho2; have HK2' : Hid (Kp [] wc w2') := Lib.hid (HK1'.out.grown hg2 (fun b hb => .inr (HO1'.out.lt hb).1)); obtain ⟨a2, c2, rfl⟩ := ho2.rd.form; rw [nv_len, HR2.out] at ho2 ⊢; have HW2 := Lib.hid (HWC.out.kp0 HK2'.out); have HS2 : Hid (Sf w2' F' (.slice a2 r2 c2)) := Lib.hid (fun b hb => ⟨fun hf => absurd (HWC.out.tr.lt b hf) (Nat.not_lt.2 (ho2.lt hb).1), (ho2.lt hb).2⟩); have HRD2 := Lib.hid ho2.rd; obtain ⟨ap2, cp2, hcell2, hrs2⟩ := HW2.out.pq.at HPX.out; rw [HPLL.out] at hcell2 hrs2; have HRS2 := Lib.hid hrs2.r; clear ho2 hg2 hrs2 HO1' HK1'))
                  | (go_at_call 26; (with_reducible refine (HA2.out _ _ _ _ HW4.out HRS4.out).mono ?_); rintro e w5 ⟨rfl, hw5, L5, hL5, hk5⟩; have HW5 := Lib.hid hw5; have HRD5 := Lib.hid (HRD4.out.kp hk5 (HS4.out.not hL5)); have HS5 := Lib.hid (HS4.out.fn hk5.size); clear hw5 hL5 hk5 hcell4 HW4 HRD4 HS4 HRS4)
                  | (go_at_call 26; go_must (refine (HA1.out _ _ _ _ HW2.out HRS2.out).mono ?_; rintro e w4 ⟨rfl, hw4, L4, hL4, hk4⟩; have HW4 := Lib.hid hw4; have HRD4 := Lib.hid (HRD2.out.kp hk4 (HS2.out.not hL4)); have HS4 := Lib.hid (HS2.out.fn hk4.size); obtain ⟨ap4, cp4, hcell4, hrs4⟩ := HW4.out.pq.at HPX.out; rw [HPLL.out] at hcell4 hrs4; have HRS4 := Lib.hid hrs4.r; clear hw4 hL4 hk4 hrs4 hcell2 HW2 HRD2 HS2 HRS2))
                  | (go_at_call 27; go_must (refine (HA3.out _ _ HW5.out).mono ?_; rintro e w6 ⟨a6', c6', rfl, hw6, hk6⟩; have HW6 := Lib.hid hw6; have HRD6 := Lib.hid (HRD5.out.kp0 hk6); have HS6 := Lib.hid (HS5.out.kp hk6.size); clear hw6 hk6 HW5 HRD5 HS5))
                  | fail)
                go_roundw
                case rel => exact ⟨j + 1, r2, left.eraseIdx q, _, a2, c2, by go_num, rfl, by have h1 := HJ2.out; have h2 := HR2I.out; omega, Lib.hid ⟨HR2.out, HW6.out, HRD6.out, HS6.out, HND2.out, fun i hi => HMEM.out i (List.mem_of_mem_eraseIdx hi)⟩⟩
                case measure => show r2 < r; have h2 := HR2I.out; omega
              · have db : decide (r2 = 0) = false := decide_eq_false hz2
                rw [db] at HA1
                have HA4 : Hid (∀ W F, LW w W F t 1 (Tof mk id l bob (left.eraseIdx q)) g ls (.slice ta N tc) l → Calls Tryd.prog 28 #[.pointer (some ⟨t, 0, none⟩), .string ⟨#[98, 111, 98]⟩, .int .u32 id] W fun e w' => ∃ v, e = .returned (.tuple #[v, .int .i64 261]) ∧ LW w w' F t 1 (Tof mk id l bob (left.eraseIdx q)) g ls (.slice ta N tc) l ∧ ∃ L, (∀ b ∈ L, F b) ∧ Kp L W w') := Lib.hid (fun W F h => (lw_take h bob_len HID.out.1 HID.out.2 (take_early bob_ok HND2.out HMM2.out HNE.out (by rw [HR2.out]; omega))).mono fun e w' ⟨v, h1, _, h3, h4⟩ => ⟨v, h1, h3, h4⟩)
                have hb1 : (r2 == 0) = false := by simp [hz2]
                have hb2 : ((r2 : Int) == 0) = false := by rw [beq_eq_false_iff_ne]; omega
                have hb3 : decide (0 < r2) = true := by simp; omega
                clear hz2 db
                go_wp2_with (first
                  | (at_builtin; (refine wpl_append el_int rfl (.tmp 167) (.tmp 170) rfl rfl rfl (Own.nil wc wc.heap.size _) HR5.out (nv_one _) (by have := HTL.out; simp; omega) (by have := HTL.out; simp; omega) (Nat.le_refl _) ?_; intro v1 w1' ho1 hg1; have HO1' := Lib.hid ho1; have HK1' : Hid (Kp [] wc w1') := Lib.hid ((Kp.refl [] wc).grown hg1 (fun b hb => by cases hb)); clear ho1 hg1))
                  | (at_builtin; (refine wpl_append el_int rfl (.tmp 172) (.tmp 176) rfl rfl rfl HO1'.out (HR6.out.kp0 HK1'.out) (nv_one _) (by have := HTL.out; simp only [List.nil_append]; omega) (by have := HTL.out; simp only [List.nil_append]; omega) HK1'.out.size ?_; intro v2 w2' ho2 hg2; rw [List.nil_append, HER.out] at ho2; have HK2' : Hid (Kp [] wc w2') := Lib.hid (HK1'.out.grown hg2 (fun b hb => .inr (HO1'.out.lt hb).1)); obtain ⟨a2, c2, rfl⟩ := ho2.rd.form; rw [nv_len, HR2.out] at ho2 ⊢; have HW2 := Lib.hid (HWC.out.kp0 HK2'.out); have HS2 : Hid (Sf w2' F' (.slice a2 r2 c2)) := Lib.hid (fun b hb => ⟨fun hf => absurd (HWC.out.tr.lt b hf) (Nat.not_lt.2 (ho2.lt hb).1), (ho2.lt hb).2⟩); have HRD2 := Lib.hid ho2.rd; obtain ⟨ap2, cp2, hcell2, hrs2⟩ := HW2.out.pq.at HPX.out; rw [HPLL.out] at hcell2 hrs2; have HRS2 := Lib.hid hrs2.r; clear ho2 hg2 hrs2 HO1' HK1'))
                  | (go_at_call 26; (with_reducible refine (HA2.out _ _ _ _ HW4.out HRS4.out).mono ?_); rintro e w5 ⟨rfl, hw5, L5, hL5, hk5⟩; have HW5 := Lib.hid hw5; have HRD5 := Lib.hid (HRD4.out.kp hk5 (HS4.out.not hL5)); have HS5 := Lib.hid (HS4.out.fn hk5.size); clear hw5 hL5 hk5 hcell4 HW4 HRD4 HS4 HRS4)
                  | (go_at_call 26; go_must (refine (HA1.out _ _ _ _ HW2.out HRS2.out).mono ?_; rintro e w4 ⟨rfl, hw4, L4, hL4, hk4⟩; have HW4 := Lib.hid hw4; have HRD4 := Lib.hid (HRD2.out.kp hk4 (HS2.out.not hL4)); have HS4 := Lib.hid (HS2.out.fn hk4.size); obtain ⟨ap4, cp4, hcell4, hrs4⟩ := HW4.out.pq.at HPX.out; rw [HPLL.out] at hcell4 hrs4; have HRS4 := Lib.hid hrs4.r; clear hw4 hL4 hk4 hrs4 hcell2 HW2 HRD2 HS2 HRS2))
                  | (go_at_call 27; go_must (refine (HA3.out _ _ HW5.out).mono ?_; rintro e w6 ⟨a6', c6', rfl, hw6, hk6⟩; have HW6 := Lib.hid hw6; have HRD6 := Lib.hid (HRD5.out.kp0 hk6); have HS6 := Lib.hid (HS5.out.kp hk6.size); clear hw6 hk6 HW5 HRD5 HS5))
                  | (go_at_call 28; go_must (refine (HA4.out _ _ HW6.out).mono ?_; rintro e w7 ⟨v7, rfl, hw7, L7, hL7, hk7⟩; have HW7 := Lib.hid hw7; have HRD7 := Lib.hid (HRD6.out.kp hk7 (HS6.out.not hL7)); have HS7 := Lib.hid (HS6.out.kp hk7.size); clear hw7 hL7 hk7))
                  | fail)
                go_roundw
                case rel => exact ⟨j + 1, r2, left.eraseIdx q, _, a2, c2, by go_num, rfl, by have h1 := HJ2.out; have h2 := HR2I.out; omega, Lib.hid ⟨HR2.out, HW7.out, HRD7.out, HS7.out, HND2.out, fun i hi => HMEM.out i (List.mem_of_mem_eraseIdx hi)⟩⟩
                case measure => show r2 < r; have h2 := HR2I.out; omega
      · have d1 : decide ((1 : Int) < (k : Int)) = false := by simp; omega
        clear hne15
        go_upto_region 18 with fail
        clear d1 h1k
        go_wp2_with fail
        clear hcell hcv
        have HST : Hid (LW w wr F t 1 (Tof mk id l bob (List.range k)) g ls (.slice ta N tc) l ∧ Rd wr (.slice la k lc) (nv (List.range k)) ∧ Sf wr F (.slice la k lc)) := Lib.hid ⟨by rw [show Tof mk id l bob (List.range k) = [] by unfold Tof; rw [if_pos (by rw [show k = cntP l.length from HLS.out])]]; exact HRW.out, HL0.out.rd, fun b hb => ⟨fun hf => absurd (HW.out.tr.lt b hf) (Nat.not_lt.2 (HL0.out.lt hb).1), (HL0.out.lt hb).2⟩⟩
        clear HL0 HR HRW
        go_loopw [15, 17] (fun lv iv wx => ∃ (j r : Nat) (left : List Nat) (F' : Nat → Prop) (a : Option Addr) (c : Nat), iv = .int .i64 j ∧ lv = .slice a r c ∧ j + r = k ∧ Hid (left.length = r ∧ LW w wx F' t 1 (Tof mk id l bob left) g ls (.slice ta N tc) l ∧ Rd wx (.slice a r c) (nv left) ∧ Sf wx F' (.slice a r c) ∧ left.Nodup ∧ ∀ i ∈ left, i < k)) (fun lv _ _ => lenOf lv)
        case atStart => exact ⟨0, k, List.range k, F, la, lc, rfl, rfl, by omega, Lib.hid ⟨List.length_range, HST.out.1, HST.out.2.1, HST.out.2.2, List.nodup_range, fun i hi => List.mem_range.1 hi⟩⟩
        case round =>
          clear HST HW HK1 HK2
          obtain ⟨j, r, left, F', a, c, rfl, rfl, hj, HR0⟩ := hrel
          have HRL := Lib.hid HR0.out.1
          have HR := Lib.hid HR0.out.2
          clear HR0
          by_cases hz : r = 0
          · obtain rfl : left = [] := List.eq_nil_of_length_eq_zero (by rw [HRL.out]; exact hz)
            have hdr : decide (0 < r) = false := by simp; omega
            have HLN : Hid (l.length ≤ 31808) := Lib.hid (by rw [HL.out]; omega)
            have HWR := Lib.hid HR.out.1
            have HT1 : Hid (∀ W F, LW w W F t 1 (Tof mk id l bob []) g ls (.slice ta N tc) l → Calls Tryd.prog 28 #[.pointer (some ⟨t, 0, none⟩), .string ⟨#[98, 111, 98]⟩, .int .u32 id] W fun e w' => ∃ a' c', e = .returned (.tuple #[.slice a' N c', .int .i64 0]) ∧ Rs w' F (.slice a' N c') l ∧ LW w w' F t 1 [] g ls (.slice ta N tc) l) := Lib.hid (fun W F h => (lw_take h bob_len HID.out.1 HID.out.2 (take_all HLN.out bob_ok)).mono fun e w' ⟨v, h1, h2, h3, _⟩ => by
              obtain ⟨a', c', rfl⟩ := h2.rd.form
              rw [bv_length] at h1 h2
              simp only [HL.out] at h1 h2
              exact ⟨a', c', h1, h2.rs h.tr.lt, h3⟩)
            have HT2 : Hid (∀ W F, LW w W F t 1 [] g ls (.slice ta N tc) l → Calls Tryd.prog 28 #[.pointer (some ⟨t, 0, none⟩), .string ⟨#[98, 111, 98]⟩, .int .u32 id] W fun e w' => ∃ v, e = .returned (.tuple #[v, .int .i64 201]) ∧ LW w w' F t 1 [] g ls (.slice ta N tc) l ∧ ∃ L, (∀ b ∈ L, F b) ∧ Kp L W w') := Lib.hid (fun W F h => (lw_take h bob_len HID.out.1 HID.out.2 (take_gone bob_ok)).mono fun e w' ⟨v, h1, _, h3, h4⟩ => ⟨v, h1, h3, h4⟩)
            have HT3 : Hid (∀ W F, LW w W F t 1 [] g ls (.slice ta N tc) l → Calls Tryd.prog 29 #[.pointer (some ⟨t, 0, none⟩)] W fun e w' => e = .returned (.int .i64 0) ∧ W = w') := Lib.hid (fun W F h => trayLen_any F t 1 [] W h.tr)
            have HRC : Hid (∀ W a c, Rd W (.slice a N c) (bv l) → (convert 27 9 (.slice a N c)).run Tryd.prog W = .ok (.string (strOf l)) W) := Lib.hid (fun W a c h => run_str Tryd.underlying27 Tryd.underlying5 Tryd.underlying9 h)
            clear hz HR hj HRL
            go_wp2_with (first
              | (go_at_call 28; (with_reducible refine (HT2.out _ _ HW8.out).mono ?_); rintro e w9 ⟨v9, rfl, hw9, L9, hL9, hk9⟩; have HW9 := Lib.hid hw9; have hcA := HRC.out w9 _ _ (HG8.out.kp hk9 hL9).r; have hcB := HRC.out w9 _ _ hw9.tx.r; clear hw9 hL9 hk9)
              | (go_at_call 28; go_must (refine (HT1.out _ _ HWR.out).mono ?_; rintro e w8 ⟨a8, c8, rfl, hg8, hw8⟩; have HW8 := Lib.hid hw8; have HG8 := Lib.hid hg8; clear hw8 hg8))
              | (go_at_call 29; go_must (refine (HT3.out _ _ HW9.out).mono ?_; rintro e wl ⟨rfl, rfl⟩))
              | fail)
            go_ret
            exact ⟨rfl, HW9.out.k⟩
          · have hpos : (0 : Int) < (r : Int) := by omega
            have hjl : j ≤ 64 := by have := HC1.out; omega
            have hdr : decide (0 < r) = true := by simp; omega
            have HLL : Hid (r ≤ k) := Lib.hid (by omega)
            have HZ := Lib.hid hz
            have HJ2 := Lib.hid hj
            have HWY := Lib.hid HR.out.1.k
            clear hz hj
            go_upto_if 148 with fail
            go_cut [18] (fun kv w' => ∃ q : Nat, q < r ∧ kv = .int .i64 q ∧ Hid (Kp [] wr w'))
            case first =>
              by_cases hjo : j < order.length
              · have hjN : decide (j < order.length) = true := by simp; omega
                rw [hjN]
                clear hjN
                have hjo2 : (j : Int) < (order.length : Int) := by omega
                have hj0 : (0 : Int) ≤ (j : Int) := by omega
                obtain ⟨ob', oo, hao, hoc⟩ := (HO.out.kp0 HWY.out).zint hjo
                subst hao
                obtain ⟨q, hq1, hq2⟩ := fold_mod order[j] (r : Int) (HO3.out _ (List.getElem_mem hjo)) hpos
                have HQ := Lib.hid hq1
                generalize order[j] = ox at *
                clear hq1
                go_wp2_with fail
                go_quiet (fail)
                rw [HQ.out]
                generalize (if ox < wrap64 (-wrap64 (ox + 1)) then wrap64 (-wrap64 (ox + 1)) else ox) = f1 at *
                generalize wrap64 (-wrap64 (ox + 1)) = f2 at *
                generalize wrap64 (ox + 1) = f3 at *
                clear hjo hjo2 hoc HQ
                go_wp2_with fail
                go_meet
                exact ⟨q, by omega, rfl, Lib.hid ((Kp.refl [] wr).drewN nq)⟩
              · have hjN : decide (j < order.length) = false := by simp; omega
                rw [hjN]
                clear hjN
                go_wp2_with fail
                go_meet
                exact ⟨0, by have := HZ.out; omega, rfl, Lib.hid (Kp.refl _ _)⟩
            case rest =>
              obtain ⟨q, hq, rfl, HKQ⟩ := hcut
              have HWC := Lib.hid (HR.out.1.kp0 HKQ.out)
              have hlr := HR.out.2.1.kp0 HKQ.out
              have HND := Lib.hid HR.out.2.2.2.1
              have HMEM := Lib.hid HR.out.2.2.2.2
              obtain ⟨x, hx⟩ : ∃ x, left[q]? = some x := ⟨_, List.getElem?_eq_getElem (by rw [HRL.out]; exact hq)⟩
              have hxk : x < k := HMEM.out x (List.mem_of_getElem? hx)
              obtain ⟨lb, lo, hla, hlc⟩ := hlr.num hx
              subst hla
              obtain ⟨a5, n5, c5, hs5, hr5⟩ := run_sub_h el_int el_int.ht hlr (q : Int) (by omega) (by omega)
              obtain ⟨a6, n6, c6, hs6, hr6⟩ := run_sub_l el_int el_int.ht hlr ((q : Int) + 1) (by omega) (by omega)
              have HR5 : Hid (Rd wc (.slice a5 n5 c5) (nv (left.take q))) := Lib.hid (by rw [show nv (left.take q) = (nv left).take (q : Int).toNat by simp [nv, List.map_take]]; exact hr5)
              have HR6 : Hid (Rd wc (.slice a6 n6 c6) (nv (left.drop (q + 1)))) := Lib.hid (by rw [show nv (left.drop (q + 1)) = (nv left).drop ((q : Int) + 1).toNat by rw [show ((q : Int) + 1).toNat = q + 1 by omega]; simp [nv, List.map_drop]]; exact hr6)
              have HX := Lib.hid hx
              obtain ⟨r2, hr2⟩ : ∃ r2, r = r2 + 1 := ⟨r - 1, by omega⟩
              have HR2 : Hid ((left.eraseIdx q).length = r2) := Lib.hid (by rw [List.length_eraseIdx, if_pos (by rw [HRL.out]; exact hq), HRL.out]; omega)
              have HER : Hid (nv (left.take q) ++ nv (left.drop (q + 1)) = nv (left.eraseIdx q)) := Lib.hid (by rw [List.eraseIdx_eq_take_drop_succ]; simp [nv])
              have HTL : Hid ((nv (left.take q)).length ≤ 64 ∧ (nv (left.drop (q + 1))).length ≤ 64) := Lib.hid (by
                have h1 := HRL.out
                have h2 := HLL.out
                have h3 := HC1.out
                rw [nv_len, nv_len, List.length_take, List.length_drop]
                omega)
              obtain ⟨e1, e2, e3, _, _⟩ := HPL.out x hxk
              have HPX := Lib.hid e1
              have HLN : Hid (l.length ≤ 31808) := Lib.hid (by rw [HL.out]; omega)
              have HK0 : Hid (k = cntP l.length) := HLS
              have HMEM2 : Hid (∀ i ∈ left, i < cntP l.length) := Lib.hid (fun i hi => by rw [← HK0.out]; exact HMEM.out i hi)
              have HAS := Lib.hid (add_step HML.out HID.out.1 HID.out.2 HLN.out bob_ok HND.out HMEM2.out HX.out)
              have HAA := Lib.hid (add_again HML.out HID.out.1 HID.out.2 HLN.out bob_ok HND.out HMEM2.out HX.out)
              have HNE : Hid (left.eraseIdx q ≠ List.range (cntP l.length)) := Lib.hid (by
                rcases cut_ne (l := l) HX.out with h | h
                · exact h
                · exact absurd (nodup_le HND.out HMEM2.out) h)
              have HND2 : Hid ((left.eraseIdx q).Nodup) := Lib.hid (HND.out.sublist (List.eraseIdx_sublist _ _))
              have HMM2 : Hid (∀ i ∈ left.eraseIdx q, i < cntP l.length) := Lib.hid (fun i hi => HMEM2.out i (List.mem_of_mem_eraseIdx hi))
              have HMI := Lib.hid (miss_step (mk := mk) (id := id) bob_ok HNE.out)
              have HML2 := Lib.hid (missL_psOf l HND2.out HMM2.out)
              generalize hpl : (partM mk id l x).length = pl at *
              have HPLL := Lib.hid hpl
              have HR2I : Hid (r = r2 + 1) := Lib.hid hr2
              have hq64 : q < 64 := by have h1 := HLL.out; have h2 := HC1.out; omega
              clear hpl hx hlr hr5 hr6 e1 HR hr2 hdr hpos
              have HA1 : Hid (∀ W F a c, LW w W F t 1 (Tof mk id l bob left) g ls (.slice ta N tc) l → Rd W (.slice a pl c) (bv (partM mk id l x)) → Calls Tryd.prog 26 #[.pointer (some ⟨t, 0, none⟩), .string ⟨#[98, 111, 98]⟩, .slice a pl c] W fun e w' => e = .returned (.tuple #[.int .u32 id, .bool (decide (r2 = 0)), .int .i64 0]) ∧ LW w w' (Fn F W w') t 1 (Tof mk id l bob (left.eraseIdx q)) g ls (.slice ta N tc) l ∧ ∃ L, (∀ b ∈ L, F b) ∧ Kp L W w') := Lib.hid (fun W F a c h hv => by
                have := lw_add HML.out HMC.out h bob_len hv (by rw [HPLL.out]; omega) HAS.out
                rw [HR2.out] at this
                exact this)
              have HA2 : Hid (∀ W F a c, LW w W F t 1 (Tof mk id l bob (left.eraseIdx q)) g ls (.slice ta N tc) l → Rd W (.slice a pl c) (bv (partM mk id l x)) → Calls Tryd.prog 26 #[.pointer (some ⟨t, 0, none⟩), .string ⟨#[98, 111, 98]⟩, .slice a pl c] W fun e w' => e = .returned (.tuple #[.int .u32 0, .bool false, .int .i64 151]) ∧ LW w w' (Fn F W w') t 1 (Tof mk id l bob (left.eraseIdx q)) g ls (.slice ta N tc) l ∧ ∃ L, (∀ b ∈ L, F b) ∧ Kp L W w') := Lib.hid (fun W F a c h hv => lw_add HML.out HMC.out h bob_len hv (by rw [HPLL.out]; omega) HAA.out)
              have HA3 : Hid (∀ W F, LW w W F t 1 (Tof mk id l bob (left.eraseIdx q)) g ls (.slice ta N tc) l → Calls Tryd.prog 27 #[.pointer (some ⟨t, 0, none⟩), .string ⟨#[98, 111, 98]⟩, .int .u32 id] W fun e w' => ∃ a c, e = .returned (.tuple #[.slice a r2 c, .int .i64 0]) ∧ LW w w' F t 1 (Tof mk id l bob (left.eraseIdx q)) g ls (.slice ta N tc) l ∧ Kp [] W w') := Lib.hid (fun W F h => (lw_missing h bob_len HID.out.1 HID.out.2 HMI.out).mono fun e w' ⟨v, h1, h2, h3, h4⟩ => by
                obtain ⟨a', c', rfl⟩ := h2.rd.form
                rw [nv_len] at h1
                simp only at h1
                rw [← HK0.out] at *
                rw [HML2.out, HR2.out] at h1
                exact ⟨a', c', h1, h3, h4⟩)
              by_cases hz2 : r2 = 0
              · have db : decide (r2 = 0) = true := decide_eq_true hz2
                rw [db] at HA1
                have hb1 : (r2 == 0) = true := by simp [hz2]
                have hb2 : ((r2 : Int) == 0) = true := by simp [hz2]
                have hb3 : decide (0 < r2) = false := by simp [hz2]
                clear hz2 db
                go_wp2_with (first
                  | (at_builtin; (refine wpl_append el_int rfl (.tmp 167) (.tmp 170) rfl rfl rfl (Own.nil wc wc.heap.size _) HR5.out (nv_one _) (by have := HTL.out; simp; omega) (by have := HTL.out; simp; omega) (Nat.le_refl _) ?_; intro v1 w1' ho1 hg1; have HO1' := Lib.hid ho1; have HK1' : Hid (Kp [] wc w1') := Lib.hid ((Kp.refl [] wc).grown hg1 (fun b hb => by cases hb)); clear ho1 hg1))
                  | (at_builtin; (refine wpl_append el_int rfl (.tmp 172) (.tmp 176) rfl rfl rfl HO1'.out (HR6.out.kp0 HK1'.out) (nv_one _) (by have := HTL.out; simp only [List.nil_append]; omega) (by have := HTL.out; simp only [List.nil_append]; omega) HK1'.out.size ?_; intro v2 w2' ho2 hg2; rw [List.nil_append, HER.out] at ho2; have HK2' : Hid (Kp [] wc w2') := Lib.hid (HK1'.out.grown hg2 (fun b hb => .inr (HO1'.out.lt hb).1)); obtain ⟨a2, c2, rfl⟩ := ho2.rd.form; rw [nv_len, HR2.out] at ho2 ⊢; have HW2 := Lib.hid (HWC.out.kp0 HK2'.out); have HS2 : Hid (Sf w2' F' (.slice a2 r2 c2)) := Lib.hid (fun b hb => ⟨fun hf => absurd (HWC.out.tr.lt b hf) (Nat.not_lt.2 (ho2.lt hb).1), (ho2.lt hb).2⟩); have HRD2 := Lib.hid ho2.rd; obtain ⟨ap2, cp2, hcell2, hrs2⟩ := HW2.out.pq.at HPX.out; rw [HPLL.out] at hcell2 hrs2; have HRS2 := Lib.hid hrs2.r; clear ho2 hg2 hrs2 HO1' HK1'))
                  | (go_at_call 26; (with_reducible refine (HA2.out _ _ _ _ HW4.out HRS4.out).mono ?_); rintro e w5 ⟨rfl, hw5, L5, hL5, hk5⟩; have HW5 := Lib.hid hw5; have HRD5 := Lib.hid (HRD4.out.kp hk5 (HS4.out.not hL5)); have HS5 := Lib.hid (HS4.out.fn hk5.size); clear hw5 hL5 hk5 hcell4 HW4 HRD4 HS4 HRS4)
                  | (go_at_call 26; go_must (refine (HA1.out _ _ _ _ HW2.out HRS2.out).mono ?_; rintro e w4 ⟨rfl, hw4, L4, hL4, hk4⟩; have HW4 := Lib.hid hw4; have HRD4 := Lib.hid (HRD2.out.kp hk4 (HS2.out.not hL4)); have HS4 := Lib.hid (HS2.out.fn hk4.size); obtain ⟨ap4, cp4, hcell4, hrs4⟩ := HW4.out.pq.at HPX.out; rw [HPLL.out] at hcell4 hrs4; have HRS4 := Lib.hid hrs4.r; clear hw4 hL4 hk4 hrs4 hcell2 HW2 HRD2 HS2 HRS2))
                  | (go_at_call 27; go_must (refine (HA3.out _ _ HW5.out).mono ?_; rintro e w6 ⟨a6', c6', rfl, hw6, hk6⟩; have HW6 := Lib.hid hw6; have HRD6 := Lib.hid (HRD5.out.kp0 hk6); have HS6 := Lib.hid (HS5.out.kp hk6.size); clear hw6 hk6 HW5 HRD5 HS5))
                  | fail)
                go_roundw
                case rel => exact ⟨j + 1, r2, left.eraseIdx q, _, a2, c2, by go_num, rfl, by have h1 := HJ2.out; have h2 := HR2I.out; omega, Lib.hid ⟨HR2.out, HW6.out, HRD6.out, HS6.out, HND2.out, fun i hi => HMEM.out i (List.mem_of_mem_eraseIdx hi)⟩⟩
                case measure => show r2 < r; have h2 := HR2I.out; omega
              · have db : decide (r2 = 0) = false := decide_eq_false hz2
                rw [db] at HA1
                have HA4 : Hid (∀ W F, LW w W F t 1 (Tof mk id l bob (left.eraseIdx q)) g ls (.slice ta N tc) l → Calls Tryd.prog 28 #[.pointer (some ⟨t, 0, none⟩), .string ⟨#[98, 111, 98]⟩, .int .u32 id] W fun e w' => ∃ v, e = .returned (.tuple #[v, .int .i64 261]) ∧ LW w w' F t 1 (Tof mk id l bob (left.eraseIdx q)) g ls (.slice ta N tc) l ∧ ∃ L, (∀ b ∈ L, F b) ∧ Kp L W w') := Lib.hid (fun W F h => (lw_take h bob_len HID.out.1 HID.out.2 (take_early bob_ok HND2.out HMM2.out HNE.out (by rw [HR2.out]; omega))).mono fun e w' ⟨v, h1, _, h3, h4⟩ => ⟨v, h1, h3, h4⟩)
                have hb1 : (r2 == 0) = false := by simp [hz2]
                have hb2 : ((r2 : Int) == 0) = false := by rw [beq_eq_false_iff_ne]; omega
                have hb3 : decide (0 < r2) = true := by simp; omega
                clear hz2 db
                go_wp2_with (first
                  | (at_builtin; (refine wpl_append el_int rfl (.tmp 167) (.tmp 170) rfl rfl rfl (Own.nil wc wc.heap.size _) HR5.out (nv_one _) (by have := HTL.out; simp; omega) (by have := HTL.out; simp; omega) (Nat.le_refl _) ?_; intro v1 w1' ho1 hg1; have HO1' := Lib.hid ho1; have HK1' : Hid (Kp [] wc w1') := Lib.hid ((Kp.refl [] wc).grown hg1 (fun b hb => by cases hb)); clear ho1 hg1))
                  | (at_builtin; (refine wpl_append el_int rfl (.tmp 172) (.tmp 176) rfl rfl rfl HO1'.out (HR6.out.kp0 HK1'.out) (nv_one _) (by have := HTL.out; simp only [List.nil_append]; omega) (by have := HTL.out; simp only [List.nil_append]; omega) HK1'.out.size ?_; intro v2 w2' ho2 hg2; rw [List.nil_append, HER.out] at ho2; have HK2' : Hid (Kp [] wc w2') := Lib.hid (HK1'.out.grown hg2 (fun b hb => .inr (HO1'.out.lt hb).1)); obtain ⟨a2, c2, rfl⟩ := ho2.rd.form; rw [nv_len, HR2.out] at ho2 ⊢; have HW2 := Lib.hid (HWC.out.kp0 HK2'.out); have HS2 : Hid (Sf w2' F' (.slice a2 r2 c2)) := Lib.hid (fun b hb => ⟨fun hf => absurd (HWC.out.tr.lt b hf) (Nat.not_lt.2 (ho2.lt hb).1), (ho2.lt hb).2⟩); have HRD2 := Lib.hid ho2.rd; obtain ⟨ap2, cp2, hcell2, hrs2⟩ := HW2.out.pq.at HPX.out; rw [HPLL.out] at hcell2 hrs2; have HRS2 := Lib.hid hrs2.r; clear ho2 hg2 hrs2 HO1' HK1'))
                  | (go_at_call 26; (with_reducible refine (HA2.out _ _ _ _ HW4.out HRS4.out).mono ?_); rintro e w5 ⟨rfl, hw5, L5, hL5, hk5⟩; have HW5 := Lib.hid hw5; have HRD5 := Lib.hid (HRD4.out.kp hk5 (HS4.out.not hL5)); have HS5 := Lib.hid (HS4.out.fn hk5.size); clear hw5 hL5 hk5 hcell4 HW4 HRD4 HS4 HRS4)
                  | (go_at_call 26; go_must (refine (HA1.out _ _ _ _ HW2.out HRS2.out).mono ?_; rintro e w4 ⟨rfl, hw4, L4, hL4, hk4⟩; have HW4 := Lib.hid hw4; have HRD4 := Lib.hid (HRD2.out.kp hk4 (HS2.out.not hL4)); have HS4 := Lib.hid (HS2.out.fn hk4.size); obtain ⟨ap4, cp4, hcell4, hrs4⟩ := HW4.out.pq.at HPX.out; rw [HPLL.out] at hcell4 hrs4; have HRS4 := Lib.hid hrs4.r; clear hw4 hL4 hk4 hrs4 hcell2 HW2 HRD2 HS2 HRS2))
                  | (go_at_call 27; go_must (refine (HA3.out _ _ HW5.out).mono ?_; rintro e w6 ⟨a6', c6', rfl, hw6, hk6⟩; have HW6 := Lib.hid hw6; have HRD6 := Lib.hid (HRD5.out.kp0 hk6); have HS6 := Lib.hid (HS5.out.kp hk6.size); clear hw6 hk6 HW5 HRD5 HS5))
                  | (go_at_call 28; go_must (refine (HA4.out _ _ HW6.out).mono ?_; rintro e w7 ⟨v7, rfl, hw7, L7, hL7, hk7⟩; have HW7 := Lib.hid hw7; have HRD7 := Lib.hid (HRD6.out.kp hk7 (HS6.out.not hL7)); have HS7 := Lib.hid (HS6.out.kp hk7.size); clear hw7 hL7 hk7))
                  | fail)
                go_roundw
                case rel => exact ⟨j + 1, r2, left.eraseIdx q, _, a2, c2, by go_num, rfl, by have h1 := HJ2.out; have h2 := HR2I.out; omega, Lib.hid ⟨HR2.out, HW7.out, HRD7.out, HS7.out, HND2.out, fun i hi => HMEM.out i (List.mem_of_mem_eraseIdx hi)⟩⟩
                case measure => show r2 < r; have h2 := HR2I.out; omega
end Go.Proofs.YtkceaepbjdfccaaDoor
