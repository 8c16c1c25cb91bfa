/-
lethelaw25.named, lethelaw25.SafetyIsHash.
-/
import Derived.Test.YtkceaepbjdfccaaDoorHalf2
namespace Go.Proofs.YtkceaepbjdfccaaDoor
open Go.RowKit
/-- a name of 1 to 16 bytes -/
def nm (s : ByteArray) : ByteArray := if 16 < s.size then s.extract 0 16 else if s.size = 0 then strOf [110, 111, 98, 111, 100, 121] else s
theorem ext_size (s : ByteArray) (h : 16 < s.size) : (s.extract 0 16).size = 16 := by
  rw [ByteArray.size_extract]; omega
theorem nm_size (s : ByteArray) : ¬ (nm s).size = 0 ∧ ¬ 16 < (nm s).size := by
  unfold nm
  split
  · rename_i h
    rw [ext_size s h]; omega
  · split
    · rw [strOf_size]; simp
    · omega
set_option maxRecDepth 100000 in
theorem lnamed_any (s : ByteArray) (w : World) (hs : s.size ≤ 140737488351232) :
    Calls Tryd.prog 12 #[.string s] w fun e w' => e = .returned (.string (nm s)) ∧ w = w' := by
  by_cases h2 : 16 < s.size
  · have e : nm s = s.extract 0 16 := by unfold nm; rw [if_pos h2]
    have E := Lib.hid e
    clear e
    go_enter Tryd.func12, Tryd.ntmps12
    go_wp2_with fail
    go_ret
    exact ⟨by rw [E.out]; rfl, rfl⟩
  · by_cases h0 : s.size = 0
    · have h1 := str_empty s h0
      have e : nm s = strOf [110, 111, 98, 111, 100, 121] := by unfold nm; rw [if_neg h2, if_pos h0]
      have E := Lib.hid e
      have h3 : ¬ 16 < (s.size : Int) := by omega
      clear e h0
      go_enter Tryd.func12, Tryd.ntmps12
      go_wp2_with fail
      go_ret
      exact ⟨by rw [E.out]; rfl, rfl⟩
    · have h1 := str_full s h0
      have e : nm s = s := by unfold nm; rw [if_neg h2, if_neg h0]
      have E := Lib.hid e
      clear e h0
      go_enter Tryd.func12, Tryd.ntmps12
      go_wp2_with fail
      go_ret
      exact ⟨by rw [E.out]; rfl, rfl⟩
theorem strOf_get (l : List UInt8) (i : Nat) (h : i < (strOf l).size) : (strOf l)[i] = l.getD i 0 := by
  have hi : i < l.length := by rw [← strOf_size]; exact h
  rw [List.getD_eq_getElem?_getD, List.getElem?_eq_getElem hi]
  rfl
/-- digits read as a number -/
def decL (l : List UInt8) (o : Nat) : Nat → Int
  | 0 => 0
  | j + 1 => decL l o j * 10 + ((l.getD (o + j) 0).toNat : Int) - 48
theorem half_digit (kk bg nm key : List Int) (q : Nat) (hq : q < 6) (j : Nat) (hj : j < 5) :
    (half kk bg nm key).getD (5 * q + j) 0 = (five (num5 (chain kk bg nm key 15) q 5)).getD j 0 := by
  unfold half
  generalize chain kk bg nm key 15 = d
  have h : ∀ k, q < k → (halfL d k).getD (5 * q + j) 0 = (five (num5 d q 5)).getD j 0 := by
    intro k
    induction k with
    | zero => intro h; omega
    | succ k ih =>
      intro h
      rw [halfL, List.getD_eq_getElem?_getD]
      by_cases hk : q < k
      · rw [List.getElem?_append_left (by rw [halfL_len]; omega), ← List.getD_eq_getElem?_getD]; exact ih hk
      · have : q = k := by omega
        subst this
        rw [List.getElem?_append_right (by rw [halfL_len]; omega), halfL_len, show 5 * q + j - 5 * q = j by omega, ← List.getD_eq_getElem?_getD]
  exact h 6 hq
theorem decL_bd (l : List UInt8) (o : Nat) (h : ∀ i, i < 5 → 48 ≤ ((l.getD (o + i) 0).toNat : Int) ∧ ((l.getD (o + i) 0).toNat : Int) ≤ 57) : ∀ j, j ≤ 5 → 0 ≤ decL l o j ∧ decL l o j < 10 ^ j
  | 0, _ => by simp [decL]
  | j + 1, hj => by
    have h1 := decL_bd l o h j (by omega)
    have h2 := h j (by omega)
    simp only [decL, Int.pow_succ]
    omega
theorem digit_rng (n b : Int) : 48 ≤ ((digit n b).toNat : Int) ∧ ((digit n b).toNat : Int) ≤ 57 := by rw [digit_val]; omega
theorem half_rng (kk bg nm key : List Int) (q : Nat) (hq : q < 6) (j : Nat) (hj : j < 5) : 48 ≤ (((half kk bg nm key).getD (5 * q + j) 0).toNat : Int) ∧ (((half kk bg nm key).getD (5 * q + j) 0).toNat : Int) ≤ 57 := by
  rw [half_digit _ _ _ _ q hq j hj]
  have : j = 0 ∨ j = 1 ∨ j = 2 ∨ j = 3 ∨ j = 4 := by omega
  rcases this with rfl | rfl | rfl | rfl | rfl <;> exact digit_rng _ _
theorem decL_half (kk bg nm key : List Int) (q : Nat) (hq : q < 6) : decL (half kk bg nm key) (5 * q) 5 = num5 (chain kk bg nm key 15) q 5 % 100000 := by
  have hn := num5_five (chain_byts kk bg nm key 15) q
  have h0 := half_digit kk bg nm key q hq 0 (by decide)
  have h1 := half_digit kk bg nm key q hq 1 (by decide)
  have h2 := half_digit kk bg nm key q hq 2 (by decide)
  have h3 := half_digit kk bg nm key q hq 3 (by decide)
  have h4 := half_digit kk bg nm key q hq 4 (by decide)
  generalize num5 (chain kk bg nm key 15) q 5 = N at *
  simp only [decL, h0, h1, h2, h3, h4]
  show ((((0 * 10 + ((digit N 10000).toNat : Int) - 48) * 10 + ((digit N 1000).toNat : Int) - 48) * 10 + ((digit N 100).toNat : Int) - 48) * 10 + ((digit N 10).toNat : Int) - 48) * 10 + ((digit N 1).toNat : Int) - 48 = _
  rw [digit_val, digit_val, digit_val, digit_val, digit_val]
  omega
set_option maxRecDepth 100000 in
set_option maxHeartbeats 1000000 in
theorem hash_any (kk bg : List Int) (s : ByteArray) (key : List Int) (w : World) (hT : Tabs kk bg w) (hs : s.size ≤ 140737488351232) (hkey : key.length = 32) :
    Calls Tryd.prog 3 #[.string s, .agg (u8s key)] w fun e w' => e = .returned (.bool true) ∧ Kp [] w w' := by
  have HT := Lib.hid hT
  have HK := Lib.hid hkey
  have HLN0 := Lib.hid (fun W => lnamed_any s W hs)
  have hnm := nm_size s
  generalize nm s = s at *
  obtain ⟨hs0, hs1⟩ := hnm
  have hcb := fun (w : World) => Lib.run_convert_string_bytes (P := Tryd.prog) w 9 27 5 s und_str und_bytes und_u8
  have hsl := fun (W : World) (g : Nat) => slice32 23 (.inl rfl) W g
  have HA := Lib.hid (half_args w s key HK.out)
  have HF := Lib.hid (nums_small s key HK.out hs1)
  obtain ⟨d0, hd0⟩ : ∃ d0, d0 = sha kk bg [[1, (s.size : Int)], nums s, key].flatten := ⟨_, rfl⟩
  have HZ : Hid ((u8s d0).size = 32) := Lib.hid (by rw [hd0, u8s_size, sha_len])
  have HD : Hid (d0 = chain kk bg (nums s) key 0) := Lib.hid (by rw [hd0, chain, nums_len]; simp)
  have HSU : Hid (∀ v w, Tabs kk bg w → Rdi w v [[1, (s.size : Int)], nums s, key] → Calls Tryd.prog 13 #[v] w fun e w' => e = .returned (.agg (u8s d0)) ∧ Kp [] w w') := Lib.hid (fun v w hT hv => by rw [hd0]; exact shasum_any kk bg v _ w hT hv HF.out (by simp))
  clear hT hkey hd0
  go_enter Tryd.func3, Tryd.ntmps3
  go_wp2_with (first
    | (go_at_call 12; go_must (refine (HLN0.out _).mono ?_; rintro e w' ⟨rfl, rfl⟩))
    | (go_at_call 13; go_must (refine (HSU.out _ _ (HT.out.kp HA.out.2.1) HA.out.1).mono ?_; rintro e w1 ⟨rfl, hk1⟩; have HK1 : Hid (Kp [] w w1 ∧ w1.heap[w.heap.size]? = some (.cells (u8s key) 23 (0, 0))) := Lib.hid ⟨HA.out.2.1.trans0 hk1, hk1.heap HA.out.2.2 (by simp)⟩; clear hk1))
    | (refine wpList_store_row (by rfl) 25 (.tmp 5) (.tmp 24) (by rfl) w1.heap.size (u8s d0) (by rfl) (by rfl) 25 _ (heap_alloc_new w1 _) (by rw [HZ.out]; kernel_rfl) (by rw [HZ.out]; rfl) (one_u8s _) ?_))
  have HM0 := Lib.hid (HM.start (old := u8s (List.replicate 32 0)) HK1.out.1 HK1.out.2 25 d0 (Nat.le_refl _) rfl)
  have HS2 : Hid (∀ t v w, Tabs kk bg w → Rdi w v [chain kk bg (nums s) key t, key] → Calls Tryd.prog 13 #[v] w fun e w' => e = .returned (.agg (u8s (chain kk bg (nums s) key (t + 1)))) ∧ Kp [] w w') := Lib.hid (fun t v w hT hv => by
    have h := shasum_any kk bg v _ w hT hv (by simp [chain_len, HK.out]) (by simp)
    rw [show [chain kk bg (nums s) key t, key].flatten = chain kk bg (nums s) key t ++ key by simp] at h
    exact h)
  have HCL : Hid (∀ t, (u8s (chain kk bg (nums s) key t)).size = 32 ∧ (chain kk bg (nums s) key t).length = 32) := Lib.hid (fun t => ⟨by rw [u8s_size, chain_len], chain_len _ _ _ _ _⟩)
  rw [HD.out] at HM0
  clear HSU HF HA HK1 hcb hsl
  go_loopw [6] (fun i wr => ∃ t : Nat, t ≤ 15 ∧ i = .int .i64 t ∧ Hid (HM w wr w.heap.size w1.heap.size key (chain kk bg (nums s) key t))) (fun i _ => 15 - (intOf i).toNat)
  case atStart => exact ⟨0, Nat.zero_le _, rfl, by rw [HD.out]; exact HM0⟩
  case round =>
    clear HM0
    obtain ⟨t, ht, rfl, HR⟩ := hrel
    by_cases hlt : t < 15
    · have hs1 := fun (W : World) => slice32 25 (.inr rfl) W w1.heap.size
      have hs2 := fun (W : World) => slice32 23 (.inl rfl) W w.heap.size
      generalize w1.heap.size = D at *
      go_wp2_with fail
      go_still_tail 2, (by kernel_rfl)
      have HRD := Lib.hid HR.out.drew
      change wpList _ _ _ _ _ wr.drew
      clear HR
      generalize wr.drew = w2 at *
      go_wp2_with (first
        | (go_at_call 13; go_must (refine (HS2.out t _ _ (HT.out.kp (HRD.out.k.alloc _)) (rdi_lit2 _ _ _ _ _ _ (rd_arr HRD.out.dig (HCL.out t).2) (rd_arr HRD.out.key HK.out))).mono ?_; rintro e w3 ⟨rfl, hk3⟩; have HR3 := Lib.hid (HRD.out.kp (((Kp.refl [] w2).alloc _).trans0 hk3)); clear hk3))
        | (refine wpList_store_row (by rfl) 25 (.tmp 5) (.tmp 32) (by rfl) D (u8s (chain kk bg (nums s) key (t + 1))) (by rfl) (by rfl) 25 _ HR3.out.dig (by rw [(HCL.out _).1]; kernel_rfl) (by rw [(HCL.out _).1, (HCL.out _).1]) (one_u8s _) ?_))
      go_roundw
      case rel => exact ⟨t + 1, by omega, by go_num, Lib.hid (HR3.out.set _)⟩
      case measure => simp [intOf]; omega
    · have ht15 : t = 15 := by omega
      subst ht15
      rw [show (((15 : Nat)) : Int) = 15 from rfl]
      have HB : Hid (Byts (chain kk bg (nums s) key 15)) := Lib.hid (chain_byts _ _ _ _ _)
      have HLN := Lib.hid (HCL.out 15).2
      have HHO := Lib.hid (fun W (hW : Tabs kk bg W) => half_ok kk bg s key HK.out W hW hs0 hs1)
      have HRG : Hid (∀ q, q < 6 → ∀ j, j < 5 → 48 ≤ (((half kk bg (nums s) key).getD (5 * q + j) 0).toNat : Int) ∧ (((half kk bg (nums s) key).getD (5 * q + j) 0).toNat : Int) ≤ 57) := Lib.hid (fun q hq j hj => half_rng kk bg (nums s) key q hq j hj)
      have HDE : Hid (∀ q, q < 6 → decL (half kk bg (nums s) key) (5 * q) 5 = num5 (chain kk bg (nums s) key 15) q 5 % 100000) := Lib.hid (fun q hq => decL_half kk bg (nums s) key q hq)
      have HHL : Hid ((half kk bg (nums s) key).length = 30) := Lib.hid (half_len _ _ _ _)
      generalize half kk bg (nums s) key = hf at *
      clear HS2 HCL HZ HD
      generalize chain kk bg (nums s) key 15 = d at *
      generalize w1.heap.size = D at *
      have hz : (u8s key).size = 32 := by rw [u8s_size, HK.out]
      have HZK := Lib.hid hz
      clear hz
      have hsz : (strOf hf).size = 30 := by rw [strOf_size, HHL.out]
      have hb1 : (((strOf hf).size : Int) != 30) = false := by rw [hsz]; rfl
      have HSZ := Lib.hid hsz
      clear hsz
      go_wp2_with (first
        | (refine wpList_load_row (by rfl) 23 (.tmp 3) (by rfl) w.heap.size (by rfl) 23 (u8s key) (0, 0) _ HR.out.key Tryd.underlying23 rfl (by rw [HZK.out]; kernel_rfl) ?_)
        | (go_at_call 14; go_must (refine (HHO.out _ (HT.out.kp HR.out.k)).mono ?_; rintro e w4 ⟨rfl, hk4⟩; have HR4 := Lib.hid (HR.out.kp hk4); clear hk4)))
      clear hb1 HHO HR
      go_loop [9] (fun i => ∃ q : Nat, q ≤ 6 ∧ i = .int .i64 q) (fun i => 6 - (intOf i).toNat)
      case atStart => exact ⟨0, Nat.zero_le _, rfl⟩
      case round =>
        obtain ⟨q, hq, rfl⟩ := hrel
        by_cases hlq : q < 6
        · go_wp2_with fail
          go_loop [10, 11] (fun n i => ∃ j : Nat, j ≤ 5 ∧ i = .int .i64 j ∧ n = .int .i64 (num5 d q j)) (fun _ i => 5 - (intOf i).toNat)
          case atStart => exact ⟨0, by decide, rfl, rfl⟩
          case round =>
            obtain ⟨j, hj, rfl, rfl⟩ := hrel
            by_cases hlj : j < 5
            · have hN := num5_small HB.out q j hlj
              have hb := HB.out (5 * q + j)
              have hcell : w4.cell? ⟨D, 5 * q + j, none⟩ = some (.int .u8 (d.getD (5 * q + j) 0)) := by
                rw [cell_of_row _ _ _ _ _ _ HR4.out.dig, u8s_getD _ _ (by rw [HLN.out]; omega)]
              have HS : Hid (num5 d q (j + 1) = num5 d q j * 256 + d.getD (5 * q + j) 0) := Lib.hid rfl
              generalize num5 d q j = N at *
              generalize d.getD (5 * q + j) 0 = b at *
              have h0 : 0 ≤ N := hN.1
              have h1 : N < 4294967296 := hN.2
              have hb0 := hb.1
              have hb1 := hb.2
              have j1 : (j : Int) < 5 := by omega
              have j2 : 5 * (q : Int) + (j : Int) < 32 := by omega
              have j3 : (0 : Int) ≤ 5 * (q : Int) + (j : Int) := by omega
              clear hN hb
              go_wp2_with fail
              go_round
              case rel => exact ⟨j + 1, by omega, by go_num, by rw [HS.out]⟩
              case measure => simp [intOf]; omega
            · have hj5 : j = 5 := by omega
              subst hj5
              have HNN := Lib.hid (num5_five HB.out q)
              have HDQ := Lib.hid (HDE.out q hlq)
              generalize num5 d q 5 = N at *
              have n0 : 0 ≤ N := HNN.out.1
              have n1 : N < 1099511627776 := HNN.out.2
              go_wp2_with fail
              go_loop [12, 13] (fun n i => ∃ j : Nat, j ≤ 5 ∧ i = .int .i64 j ∧ n = .int .i64 (decL hf (5 * q) j)) (fun _ i => 5 - (intOf i).toNat)
              case atStart => exact ⟨0, by decide, rfl, rfl⟩
              case round =>
                obtain ⟨j, hj, rfl, rfl⟩ := hrel
                have hD := decL_bd hf (5 * q) (HRG.out q hlq) j hj
                have hD2 : (10 : Int) ^ j ≤ 100000 := by
                  have : j = 0 ∨ j = 1 ∨ j = 2 ∨ j = 3 ∨ j = 4 ∨ j = 5 := by omega
                  rcases this with rfl | rfl | rfl | rfl | rfl | rfl <;> decide
                by_cases hlj : j < 5
                · have hr := HRG.out q hlq j hlj
                  have HS : Hid (decL hf (5 * q) (j + 1) = decL hf (5 * q) j * 10 + ((hf.getD (5 * q + j) 0).toNat : Int) - 48) := Lib.hid rfl
                  generalize decL hf (5 * q) j = M at *
                  have j1 : (j : Int) < 5 := by omega
                  have j2 : 5 * (q : Int) + (j : Int) < ((strOf hf).size : Int) := by rw [HSZ.out]; omega
                  have j3 : (0 : Int) ≤ 5 * (q : Int) + (j : Int) := by omega
                  go_wp2_with fail
                  go_round
                  case rel =>
                    refine ⟨j + 1, by omega, by go_num, ?_⟩
                    rw [HS.out, strOf_get]
                    generalize ((hf.getD (5 * q + j) 0).toNat : Int) = X at *
                    have hM := hD.2
                    have hM0 := hD.1
                    rw [IntWalk.wrap64_in X (by omega), IntWalk.wrap64_in (M * 10 + X) (by omega), IntWalk.wrap64_in (M * 10 + X - 48) (by omega)]
                  case measure => simp [intOf]; omega
                · have hj5 : j = 5 := by omega
                  subst hj5
                  have hne : (N % 100000 != N % 100000) = false := by simp
                  rw [HDQ.out]
                  go_wp2_with fail
                  go_round
                  case rel => exact ⟨q + 1, by omega, by go_num⟩
                  case measure => simp [intOf]; omega
        · go_wp2_with fail
          go_ret
          exact ⟨rfl, HR4.out.k⟩
end Go.Proofs.YtkceaepbjdfccaaDoor
