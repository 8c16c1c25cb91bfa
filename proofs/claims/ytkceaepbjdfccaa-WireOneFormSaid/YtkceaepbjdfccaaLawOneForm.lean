/-
WireOneForm answers true at every input.
-/
import Derived.Test.YtkceaepbjdfccaaWire3
import Derived.Test.YtkceaepbjdfccaaWirePlain
namespace Go.Proofs.Ytkceaepbjdfccaa
open Go.RowKit
set_option maxRecDepth 100000 in
set_option maxHeartbeats 1000000 in
theorem oneForm_walk (s : ByteArray) (v : Value) (l : List UInt8) (w : World) (hs : s.size ≤ 140737488351232) (hl : l.length ≤ 140737488351232) (hv : Rd w v (bv l)) :
    Calls Try.prog 3 #[.string s, v] w fun e w' => e = .returned (.bool true) ∧ Kp [] w w' := by
  have hcb := fun (w : World) => Lib.run_convert_string_bytes (P := Try.prog) w 9 22 5 s und_str und_bytes und_u8
  obtain ⟨ao0, cap0, rfl⟩ := hv.form
  have HL := Lib.hid (bv_length l)
  rw [HL.out] at hv ⊢
  have hsz : (strOf (hexL l)).size = 2 * l.length := by rw [strOf_size, hexL_length]
  have hun : unhexL (strOf (hexL l)).data.toList = some l := by rw [strOf_toList, unhexL_hexL]
  have HS := Lib.hid hsz
  have HU := Lib.hid hun
  clear hsz hun
  cases hx : unhexL s.data.toList with
  | some d =>
    have HX := Lib.hid hx
    clear hx
    go_enter Try.func3, Try.ntmps3
    go_wp2_with fail
    refine (hex_any _ l w hl hv).mono ?_
    rintro e w1 ⟨rfl, k1⟩
    go_wp2_with fail
    refine (unhex_some _ l w1 (by rw [HS.out]; omega) HU.out).mono ?_
    rintro e w2 ⟨ao2, cap2, rfl, ho2, k2⟩
    have hv2 := (hv.kp0 k1).kp0 k2
    have d1 : decide (l = l) = true := by simp
    go_wp2_with fail
    refine (eq_any _ _ l l w2 ho2.rd hv2).mono ?_
    rintro e w2' ⟨rfl, rfl⟩
    have b1 : (((strOf (hexL l)).size : Int) != 2 * (l.length : Int)) = false := by rw [HS.out, bne_eq_false_iff_eq]; omega
    go_wp2_with fail
    refine (unhex_some s d w2 (by omega) HX.out).mono ?_
    rintro e w3 ⟨ao3, cap3, rfl, ho3, k3⟩
    have hdl : d.length ≤ 140737488351232 := by
      have h := congrArg List.length (hexL_unhexL _ _ HX.out)
      rw [hexL_length] at h
      have : s.data.toList.length = s.size := Array.length_toList
      omega
    clear b1 d1
    go_wp2_with fail
    refine (hex_any _ d w3 hdl (by have h := ho3.rd; exact h)).mono ?_
    rintro e w4 ⟨rfl, k4⟩
    have e4 : strOf (hexL d) = s := by rw [hexL_unhexL _ _ HX.out, strOf_data]
    have E4 := Lib.hid e4
    rw [e4]
    clear e4
    go_wp2_with fail
    go_ret
    exact ⟨by simp, ((k1.trans0 k2).trans0 k3).trans0 k4⟩
  | none =>
    have HX := Lib.hid hx
    have hpos : 0 < s.size := by
      rcases Nat.eq_zero_or_pos s.size with h | h
      · exfalso
        have h2 : s.data.toList = [] := List.eq_nil_of_length_eq_zero (by rw [Array.length_toList]; exact h)
        rw [h2] at hx; cases hx
      · exact h
    clear hx
    go_enter Try.func3, Try.ntmps3
    go_wp2_with fail
    refine (hex_any _ l w hl hv).mono ?_
    rintro e w1 ⟨rfl, k1⟩
    go_wp2_with fail
    refine (unhex_some _ l w1 (by rw [HS.out]; omega) HU.out).mono ?_
    rintro e w2 ⟨ao2, cap2, rfl, ho2, k2⟩
    have hv2 := (hv.kp0 k1).kp0 k2
    have d1 : decide (l = l) = true := by simp
    go_wp2_with fail
    refine (eq_any _ _ l l w2 ho2.rd hv2).mono ?_
    rintro e w2' ⟨rfl, rfl⟩
    have b1 : (((strOf (hexL l)).size : Int) != 2 * (l.length : Int)) = false := by rw [HS.out, bne_eq_false_iff_eq]; omega
    go_wp2_with fail
    refine (unhex_none s w2 (by omega) HX.out).mono ?_
    rintro e w3 ⟨ao3, cap3, rfl, ho3, k3⟩
    clear b1 d1
    go_wp2_with fail
    refine (hex_any _ s.data.toList (Lib.bytesWorld w3 5 s) (by rw [show s.data.toList.length = s.size from Array.length_toList]; exact hs) (rd_bytesWorld w3 5 s)).mono ?_
    rintro e w4 ⟨rfl, k4⟩
    have hne : Hid ((strOf (hexL s.data.toList)).toList.isEmpty = false) := by
      rw [ByteArray.toList_eq, strOf_toList]
      cases h : hexL s.data.toList with
      | nil =>
        have h2 := congrArg List.length h
        rw [hexL_length, show s.data.toList.length = s.size from Array.length_toList] at h2
        simp at h2; omega
      | cons x r => rfl
    go_wp2_with fail
    go_ret
    refine ⟨?_, ((k1.trans0 k2).trans0 k3).trans0 ((kp_bytesWorld _ _ _).trans0 k4)⟩
    show Ending.returned (.bool (!(strOf (hexL s.data.toList)).toList.isEmpty)) = _
    rw [hne.out]; rfl
end Go.Proofs.Ytkceaepbjdfccaa
