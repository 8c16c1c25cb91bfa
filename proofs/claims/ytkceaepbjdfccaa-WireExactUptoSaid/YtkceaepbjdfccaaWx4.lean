/-
The document's answer: Join.
-/
import Derived.Test.YtkceaepbjdfccaaWx3
import Derived.Test.YtkceaepbjdfccaaRead3
namespace Go.Proofs.Ytkceaepbjdfccaa
open Go.RowKit
set_option maxRecDepth 100000 in
set_option maxHeartbeats 1000000 in
theorem rjoin_any (v : Value) (ls : List (List UInt8)) (w : World) (hv : Rdd w v ls) (hfl : flen ls ≤ 140737488351232) (hll : ls.length ≤ 140737488355328) :
    Calls Try.prog 78 #[v] w fun e w' => ∃ x, e = .returned x ∧ Own w' w.heap.size 5 x (bv ls.flatten) ∧ Kp [] w w' := by
  obtain ⟨ao, cap, rfl⟩ := hv.form
  have HV := Lib.hid hv
  clear hv
  go_enter Try.func78, Try.ntmps78
  go_wp2_with fail
  go_loopw [3, 4] (fun out i wr => ∃ k : Nat, k ≤ ls.length ∧ i = .int .i64 k ∧ Hid (Own wr w.heap.size 5 out (bv (ls.take k).flatten) ∧ Kp [] w wr)) (fun _ i _ => ls.length - (intOf i).toNat)
  case atStart => exact ⟨0, Nat.zero_le _, rfl, Lib.hid ⟨Own.nil _ _ _, Kp.refl _ _⟩⟩
  case round =>
    obtain ⟨i, hi, rfl, HI⟩ := hrel
    rename World => wo
    obtain ⟨oa, oc, rfl⟩ := HI.out.1.rd.form
    generalize hlo : (bv (List.take i ls).flatten).length = ol at *
    have HLO := Lib.hid hlo
    clear hlo
    by_cases hlt : i < ls.length
    · obtain ⟨b, off, hao, ao', cap', hc0, hr⟩ := HV.out.at hlt
      subst hao
      have HRD := Lib.hid hr
      have HCC := Lib.hid hc0
      have hc := HI.out.2.cell_some hc0 (by simp)
      clear hc0
      have hle := flat_le ls (i + 1)
      have hsum := flen_take ls i hlt
      have hft := flat_take ls i hlt
      have HFT := Lib.hid hft
      have hlen : (ls.take i).flatten.length = flen (ls.take i) := rfl
      have HS : Hid (flen (ls.take i) + ls[i].length ≤ 140737488351232) := Lib.hid (by omega)
      have HLEN := Lib.hid hlen
      have hbi : ls[i].length ≤ 140737488351232 := by omega
      clear hle hsum hft hr hlen
      go_wp2_with fail
      go_loopw [3, 5] (fun out k wr => ∃ m : Nat, m ≤ ls[i].length ∧ k = .int .i64 m ∧ Hid (Own wr w.heap.size 5 out (bv ((ls.take i).flatten ++ ls[i].take m)) ∧ Kp [] w wr)) (fun _ k _ => ls[i].length - (intOf k).toNat)
      case atStart => exact ⟨0, Nat.zero_le _, rfl, Lib.hid ⟨by have h := HI.out.1; simpa using h, HI.out.2⟩⟩
      case round =>
        clear hc
        obtain ⟨m, hm, rfl, HM⟩ := hrel
        obtain ⟨pa, pc, rfl⟩ := HM.out.1.rd.form
        generalize hpo : (bv ((List.take i ls).flatten ++ ls[i].take m)).length = pl at *
        have HPO := Lib.hid hpo
        clear hpo
        have hc2 := HM.out.2.cell_some HCC.out (by simp)
        by_cases hmt : m < ls[i].length
        · obtain ⟨bx, ox, hax, _, hcx⟩ := (HRD.out.kp0 HM.out.2).byte hmt
          subst hax
          have hpl : Hid (pl ≤ 140737488351232) := Lib.hid (by have := HPO.out; have := HS.out; have := HLEN.out; rw [bv_length, List.length_append, List.length_take] at *; omega)
          generalize hX : (ls[i][m].toNat : Int) = X at *
          have HX := Lib.hid hX
          clear hX
          go_wp2_with (first
            | (at_builtin; refine wpl_append2 el_u8 rfl (.tmp 21) (.tmp 29) rfl (B := w.heap.size) rfl rfl (HM.out.1.kp0 ((Kp.refl [] wr).alloc _)) (rd_lit1 _ _ _) (by simp [Value.oneCell']) (by rw [HPO.out]; simp; have := hpl.out; omega) (by rw [HPO.out]; simp; have := hpl.out; omega) (by have := HM.out.2.size; simp; omega) ?_; intro v2 w3 ho2 hg2 hb2; have HB : Hid (Kp [] w w3) := Lib.hid (((HM.out.2).alloc _).grown hg2 (fun g hg => .inr (HM.out.1.lt hg).1)); have HO2 := Lib.hid ho2; clear ho2 hg2 hb2)
            | fail)
          go_roundw
          case rel =>
            refine ⟨m + 1, by omega, by go_num, Lib.hid ⟨?_, HB.out⟩⟩
            rw [List.take_succ_eq_append_getElem hmt, ← List.append_assoc, bv_append]
            have h := HO2.out
            rw [← HX.out] at h
            exact h
          case measure => simp [intOf]; omega
        · obtain rfl : m = ls[i].length := by omega
          go_wp2_with fail
          go_roundw
          case rel =>
            refine ⟨i + 1, by omega, by go_num, Lib.hid ⟨?_, HM.out.2⟩⟩
            have h := HM.out.1
            rw [List.take_length, ← HFT.out] at h
            exact h
          case measure => simp [intOf]; omega
    · obtain rfl : i = ls.length := by omega
      have h := HI.out
      rw [List.take_length] at h
      go_wp2_with fail
      go_ret
      exact ⟨_, rfl, h.1, h.2⟩
end Go.Proofs.Ytkceaepbjdfccaa
