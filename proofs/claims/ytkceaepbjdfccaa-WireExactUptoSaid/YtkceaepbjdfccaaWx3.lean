/-
The document's answer: Unhex, Join.
-/
import Derived.Test.YtkceaepbjdfccaaWx2
import Derived.Test.YtkceaepbjdfccaaWire3
namespace Go.Proofs.Ytkceaepbjdfccaa
open Go.RowKit
theorem rdigI_le (c : Int) (h : digI c ≤ 15) : rdigI c = digI c := by unfold rdigI; rw [if_pos h]
theorem rdigI_gt (c : Int) (h : ¬ digI c ≤ 15) : rdigI c = -1 := by unfold rdigI; rw [if_neg h]
set_option maxRecDepth 100000 in
set_option maxHeartbeats 1000000 in
theorem runhex_any (s : ByteArray) (w : World) (hs : s.size ≤ 140737488351232) :
    Calls Try.prog 82 #[.string s] w (UnhexPost s.data.toList w) := by
  have hsz : s.data.toList.length = s.size := Array.length_toList
  by_cases hodd : s.size % 2 = 1
  · have H := Lib.hid (unhexL_odd s.data.toList (by omega))
    have hb : ((s.size : Int) % 2 != 0) = true := by rw [bne_iff_ne]; omega
    clear hsz hodd
    go_enter Try.func82, Try.ntmps82
    go_wp2
    go_ret2
    refine ⟨.slice none 0 0, ?_, ?_, Kp.refl _ _⟩
    · unfold unhexE; rw [H.out]; rfl
    · rw [H.out]; exact Own.nil _ _ _
  · obtain ⟨m, hm⟩ : ∃ m, Hid (s.size = 2 * m) := ⟨s.size / 2, Lib.hid (by omega)⟩
    have hb : ((s.size : Int) % 2 != 0) = false := by rw [bne_eq_false_iff_eq]; omega
    have hsize : s.size ≤ 2 * m ∧ 2 * m ≤ s.size := by have := hm.out; omega
    have HL := Lib.hid hsz
    clear hodd hsz
    go_enter Try.func82, Try.ntmps82
    go_wp2_with fail
    go_loopw [4, 5] (fun out i wr => ∃ j k : Nat, ∃ acc : List UInt8, Hid (j = 2 * k ∧ acc.length = k ∧ unhexL s.data.toList = (unhexL (s.data.toList.drop j)).map (acc ++ ·) ∧ Own wr w.heap.size 5 out (bv acc) ∧ Kp [] w wr) ∧ j ≤ s.size ∧ i = .int .i64 (j : Int)) (fun _ i _ => s.size - (intOf i).toNat)
    case atStart => exact ⟨0, 0, [], Lib.hid ⟨rfl, rfl, by simp, Own.nil _ _ _, Kp.refl _ _⟩, Nat.zero_le _, rfl⟩
    case round =>
      obtain ⟨j, k, acc, HI, hk, rfl⟩ := hrel
      obtain ⟨oa, oc, rfl⟩ := HI.out.2.2.2.1.rd.form
      generalize hlo : (bv acc).length = ol at *
      have HLO := Lib.hid hlo
      clear hlo
      by_cases hlt : j < s.size
      · have hlt1 : j + 1 < s.size := by have := HI.out.1; have := hm.out; omega
        have HD := Lib.hid (unhexL_drop s.data.toList k (by rw [HL.out, ← HI.out.1]; exact hlt1))
        have hi0 : (0 : Int) ≤ (j : Int) + 1 := by omega
        have hi1 : (j : Int) + 1 < s.size := by omega
        have hi2 : ((j : Int) + 1).toNat = j + 1 := by omega
        have hi3 : (j : Int) < s.size := by omega
        have hi4 : IntKind.i64.wrap ((j : Int) + 1) = (j : Int) + 1 := IntWalk.i64_in _ (by omega)
        have hx0 := u8_lt s[j]
        have hx1 := u8_lt s[j + 1]
        have hA0 := digI_lo (s[j].toNat : Int)
        have hB0 := digI_lo (s[j + 1].toNat : Int)
        have HDA := Lib.hid (rdigit_any (s[j].toNat : Int) (by omega))
        have HDB := Lib.hid (rdigit_any (s[j + 1].toNat : Int) (by omega))
        have HD2 : Hid (unhexL (List.drop j s.data.toList) = if digI (s[j].toNat : Int) ≤ 15 ∧ digI (s[j + 1].toNat : Int) ≤ 15 then (unhexL (List.drop (j + 2) s.data.toList)).map (UInt8.ofNat (16 * (digI (s[j].toNat : Int)).toNat + (digI (s[j + 1].toNat : Int)).toNat) :: ·) else none) := by
          have h := HD.out
          have e := HI.out.1
          subst e
          exact h
        clear HD
        generalize hX : (s[j].toNat : Int) = X at *
        generalize hY : (s[j + 1].toNat : Int) = Y at *
        by_cases hA : digI X ≤ 15
        · have HRA := Lib.hid (rdigI_le _ hA)
          by_cases hB : digI Y ≤ 15
          · have HRB := Lib.hid (rdigI_le _ hB)
            rw [HRA.out] at HDA
            rw [HRB.out] at HDB
            clear HRA HRB
            generalize digI X = A at *
            generalize digI Y = B at *
            have dA : decide (A < 0) = false := by simp; omega
            have dB : decide (B < 0) = false := by simp; omega
            go_wp2_with (first
              | (at_builtin; refine wpl_append2 el_u8 rfl (.tmp 33) (.tmp 39) rfl (B := w.heap.size) rfl rfl (HI.out.2.2.2.1.kp0 ((Kp.refl [] wr).alloc _)) (rd_lit1 _ _ _) (by simp [Value.oneCell']) (by rw [HLO.out]; simp; have := HI.out.1; have := HI.out.2.1; have := HLO.out; rw [bv_length] at this; omega) (by rw [HLO.out]; simp; have := HI.out.1; have := HI.out.2.1; have := HLO.out; rw [bv_length] at this; omega) (by have := HI.out.2.2.2.2.size; simp; omega) ?_; intro v2 w2 ho2 hg2 hb2; have HB : Hid (Kp [] w w2) := Lib.hid (((HI.out.2.2.2.2).alloc _).grown hg2 (fun g hg => .inr (HI.out.2.2.2.1.lt hg).1)); have HO2 := Lib.hid ho2; clear ho2 hg2 hb2)
              | (go_at_call 84; go_must (first | ((with_reducible refine (HDA.out _).mono ?_); rintro e w3 ⟨rfl, rfl⟩) | ((with_reducible refine (HDB.out _).mono ?_); rintro e w3 ⟨rfl, rfl⟩)))
              | fail)
            go_roundw
            case rel =>
              refine ⟨j + 2, k + 1, acc ++ [UInt8.ofNat (16 * A.toNat + B.toNat)], Lib.hid ⟨by have := HI.out.1; omega, by simp [HI.out.2.1], ?_, ?_, HB.out⟩, by have := HI.out.1; have := hm.out; omega, by go_num⟩
              · rw [HI.out.2.2.1, HD2.out, if_pos ⟨hA, hB⟩]
                simp [Function.comp_def]
              · have h := HO2.out
                rw [bv_append]
                have e : bval (UInt8.ofNat (16 * A.toNat + B.toNat)) = .int .u8 (16 * A + B) := by rw [u8_ofNat _ (by omega)]; congr 1; omega
                simp only [bv, List.map_cons, List.map_nil, e]
                exact h
            case measure => simp [intOf]; omega
          · have HRB := Lib.hid (rdigI_gt _ hB)
            have HN := HD2.out
            rw [if_neg (fun h => hB h.2)] at HN
            have HN2 := Lib.hid HN
            rw [HRA.out] at HDA
            rw [HRB.out] at HDB
            clear HRA HRB HN HD2
            generalize digI X = A at *
            have dA : decide (A < 0) = false := by simp; omega
            go_wp2_with (first
              | (go_at_call 84; go_must (first | ((with_reducible refine (HDA.out _).mono ?_); rintro e w3 ⟨rfl, rfl⟩) | ((with_reducible refine (HDB.out _).mono ?_); rintro e w3 ⟨rfl, rfl⟩)))
              | fail)
            go_ret2
            have hn : unhexL s.data.toList = none := by rw [HI.out.2.2.1, HN2.out]; rfl
            refine ⟨.slice none 0 0, ?_, ?_, HI.out.2.2.2.2⟩
            · unfold unhexE; rw [hn]; rfl
            · rw [hn]; exact Own.nil _ _ _
        · have HRA := Lib.hid (rdigI_gt _ hA)
          have HN := HD2.out
          rw [if_neg (fun h => hA h.1)] at HN
          have HN2 := Lib.hid HN
          rw [HRA.out] at HDA
          clear HRA HN HD2
          generalize rdigI Y = R at *
          go_wp2_with (first
            | (go_at_call 84; go_must (first | ((with_reducible refine (HDA.out _).mono ?_); rintro e w3 ⟨rfl, rfl⟩) | ((with_reducible refine (HDB.out _).mono ?_); rintro e w3 ⟨rfl, rfl⟩)))
            | fail)
          go_ret2
          have hn : unhexL s.data.toList = none := by rw [HI.out.2.2.1, HN2.out]; rfl
          refine ⟨.slice none 0 0, ?_, ?_, HI.out.2.2.2.2⟩
          · unfold unhexE; rw [hn]; rfl
          · rw [hn]; exact Own.nil _ _ _
      · go_wp2_with fail
        go_ret2
        have hn : unhexL s.data.toList = some acc := by
          rw [HI.out.2.2.1, List.drop_eq_nil_of_le (by rw [HL.out]; omega)]; simp [unhexL]
        refine ⟨.slice oa ol oc, ?_, ?_, HI.out.2.2.2.2⟩
        · unfold unhexE; rw [hn]; rfl
        · rw [hn]; exact HI.out.2.2.2.1
end Go.Proofs.Ytkceaepbjdfccaa
