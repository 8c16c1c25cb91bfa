/-
What wire.Unhex comes to.
-/
import Derived.Test.YtkceaepbjdfccaaWire2
namespace Go.Proofs.Ytkceaepbjdfccaa
open Go.RowKit

/-! Unhex -/
theorem unhexL_drop (l : List UInt8) (k : Nat) (h : 2 * k + 1 < l.length) :
    unhexL (l.drop (2 * k)) = if digI l[2 * k].toNat ≤ 15 ∧ digI l[2 * k + 1].toNat ≤ 15 then (unhexL (l.drop (2 * (k + 1)))).map (UInt8.ofNat (16 * (digI l[2 * k].toNat).toNat + (digI l[2 * k + 1].toNat).toNat) :: ·) else none := by
  rw [List.drop_eq_getElem_cons (by omega : 2 * k < l.length), List.drop_eq_getElem_cons (by omega : 2 * k + 1 < l.length)]
  rfl
theorem unhexL_odd : ∀ (l : List UInt8), l.length % 2 = 1 → unhexL l = none
  | [], h => by simp at h
  | [_], _ => rfl
  | x :: y :: r, h => by
    unfold unhexL
    rw [unhexL_odd r (by simp only [List.length_cons] at h; omega)]; split <;> rfl
def unhexE (l : List UInt8) : Int := if (unhexL l).isSome then 0 else 13
def UnhexPost (l : List UInt8) (w : World) (e : Ending) (w' : World) : Prop :=
  ∃ v, e = .returned (.tuple #[v, .int .i64 (unhexE l)]) ∧ Own w' w.heap.size 5 v (bv ((unhexL l).getD [])) ∧ Kp [] w w'
set_option maxRecDepth 100000 in
set_option maxHeartbeats 1000000 in
theorem unhex_any (s : ByteArray) (w : World) (hs : s.size ≤ 281474976702464) :
    Calls Try.prog 11 #[.string s] w (UnhexPost s.data.toList w) := by
  have hsz : s.data.toList.length = s.size := Array.length_toList
  by_cases hodd : s.size % 2 = 1
  · have H := Lib.hid (unhexL_odd s.data.toList (by omega))
    have hb : ((s.size : Int) % 2 != 0) = true := by rw [bne_iff_ne]; omega
    clear hsz hodd
    go_enter Try.func11, Try.ntmps11
    go_wp2
    go_ret2
    refine ⟨.slice none 0 0, ?_, ?_, Kp.refl _ _⟩
    · unfold unhexE; rw [H.out]; rfl
    · rw [H.out]; exact Own.nil _ _ _
  · obtain ⟨m, hm⟩ : ∃ m, Hid (s.size = 2 * m) := ⟨s.size / 2, Lib.hid (by omega)⟩
    have hb : ((s.size : Int) % 2 != 0) = false := by rw [bne_eq_false_iff_eq]; omega
    have hsize : s.size ≤ 2 * m ∧ 2 * m ≤ s.size := by have := hm.out; omega
    have HL := Lib.hid hsz
    clear hodd hsz
    go_enter Try.func11, Try.ntmps11
    go_wp2_with (first | (at_make; refine wpl_make0 el_u8 rfl _ _ rfl _ _ _ m rfl rfl (by omega) (by omega) (by omega) ?_) | fail)
    intro w1 hown hgrow hsz1
    go_wp2_with fail
    go_loopw [4, 5] (fun out i wr => ∃ j k : Nat, ∃ acc : List UInt8, Hid (j = 2 * k) ∧ j ≤ s.size ∧ i = .int .i64 (j : Int) ∧ out = .slice (some ⟨w.heap.size, 0, none⟩) k m ∧ acc.length = k ∧ unhexL s.data.toList = (unhexL (s.data.toList.drop j)).map (acc ++ ·) ∧ Own wr w.heap.size 5 out (bv acc) ∧ Kp [] w wr ∧ w.heap.size < wr.heap.size) (fun _ i _ => s.size - (intOf i).toNat)
    case atStart => exact ⟨0, 0, [], Lib.hid rfl, Nat.zero_le _, rfl, rfl, rfl, by simp, hown, Kp.of_grown0 hgrow, hsz1⟩
    case round =>
      clear hown hgrow hsz1
      obtain ⟨j, k, acc, hjk, hk, rfl, rfl, hal, hu, hown, hb, hsz1⟩ := hrel
      have HU := Lib.hid hu
      have HA := Lib.hid hal
      have HO := Lib.hid hown
      clear hu hal hown
      by_cases hlt : j < s.size
      · have hlt1 : j + 1 < s.size := by have := hjk.out; omega
        have HD := Lib.hid (unhexL_drop s.data.toList k (by rw [HL.out, ← hjk.out]; exact hlt1))
        have hi0 : (0 : Int) ≤ (j : Int) + 1 := by omega
        have hi1 : (j : Int) + 1 < s.size := by omega
        have hi2 : ((j : Int) + 1).toNat = j + 1 := by omega
        have hi3 : (j : Int) < s.size := by omega
        have hi4 : IntKind.i64.wrap ((j : Int) + 1) = (j : Int) + 1 := IntWalk.i64_in _ (by omega)
        have hx0 := u8_lt s[j]
        have hx1 := u8_lt s[j + 1]
        go_wp2_with fail
        go_quiet ((go_at_call 48; exact quietS (digit_any _ (by omega) (by omega) _)))
        have hA0 := digI_lo (s[j].toNat : Int)
        have hB0 := digI_lo (s[j + 1].toNat : Int)
        have HD2 : Hid (unhexL (List.drop j s.data.toList) = if digI (s[j].toNat : Int) ≤ 15 ∧ digI (s[j + 1].toNat : Int) ≤ 15 then (unhexL (List.drop (j + 2) s.data.toList)).map (UInt8.ofNat (16 * (digI (s[j].toNat : Int)).toNat + (digI (s[j + 1].toNat : Int)).toNat) :: ·) else none) := by
          have h := HD.out
          have e := hjk.out
          subst e
          exact h
        clear HD
        generalize digI (s[j].toNat : Int) = A at *
        generalize digI (s[j + 1].toNat : Int) = B at *
        by_cases hA : A ≤ 15
        · have dA : decide (15 < A) = false := by simp; omega
          by_cases hB : B ≤ 15
          · have dB : decide (15 < B) = false := by simp; omega
            have hor : bits BinOp.or IntKind.u8 (A * 16) B = A * 16 + B := or16 A B hA0 hA hB0 hB
            go_wp2_with (first | (at_builtin; refine wpl_append_fits el_u8 rfl _ _ rfl (B := w.heap.size) rfl rfl (HO.out.kp0 (((Kp.refl [] wr).drewN _).alloc _)) (rd_lit1 _ _ _) (by simp [Value.oneCell']) (by simp only [List.length_cons, List.length_nil]; have := hjk.out; omega) ?_; intro w2 ho2 hg2) | fail)
            have HB := ((hb.drewN nq).alloc _).grown hg2 (fun k hk => by cases hk; exact .inr (Nat.le_refl _))
            have hsz2 : w.heap.size < w2.heap.size := by have := hg2.size; simp at this; omega
            have HO2 := Lib.hid ho2
            clear ho2 hg2
            go_wp2_with fail
            go_roundw
            case rel =>
              refine ⟨j + 2, k + 1, acc ++ [UInt8.ofNat (16 * A.toNat + B.toNat)], Lib.hid (by have := hjk.out; omega), by have := hjk.out; omega, by go_num, rfl, by simp [HA.out], ?_, ?_, HB, hsz2⟩
              · rw [HU.out, HD2.out, if_pos ⟨hA, hB⟩]
                simp [Function.comp_def]
              · have h := HO2.out
                rw [bv_append]
                have e : bval (UInt8.ofNat (16 * A.toNat + B.toNat)) = .int .u8 (A * 16 + B) := by rw [u8_ofNat _ (by omega)]; congr 1; omega
                simp only [bv, List.map_cons, List.map_nil, e]
                exact h
            case measure => simp [intOf]; omega
          · have dB : decide (15 < B) = true := by simp; omega
            go_wp2_with fail
            go_ret2
            have hn : unhexL s.data.toList = none := by rw [HU.out, HD2.out, if_neg (by omega)]; rfl
            refine ⟨.slice none 0 0, ?_, ?_, hb.drewN nq⟩
            · unfold unhexE; rw [hn]; rfl
            · rw [hn]; exact Own.nil _ _ _
        · have dA : decide (15 < A) = true := by simp; omega
          go_wp2_with fail
          go_ret2
          have hn : unhexL s.data.toList = none := by rw [HU.out, HD2.out, if_neg (by omega)]; rfl
          refine ⟨.slice none 0 0, ?_, ?_, hb.drewN nq⟩
          · unfold unhexE; rw [hn]; rfl
          · rw [hn]; exact Own.nil _ _ _
      · go_wp2_with fail
        go_ret2
        have hn : unhexL s.data.toList = some acc := by
          rw [HU.out, List.drop_eq_nil_of_le (by rw [HL.out]; omega)]; simp [unhexL]
        refine ⟨.slice (some ⟨w.heap.size, 0, none⟩) k m, ?_, ?_, hb⟩
        · unfold unhexE; rw [hn]; rfl
        · rw [hn]; exact HO.out

theorem unhex_some (s : ByteArray) (d : List UInt8) (w : World) (hs : s.size ≤ 281474976702464) (h : unhexL s.data.toList = some d) :
    Calls Try.prog 11 #[.string s] w fun e w' => ∃ ao cap, e = .returned (.tuple #[.slice ao d.length cap, .int .i64 0]) ∧ Own w' w.heap.size 5 (.slice ao d.length cap) (bv d) ∧ Kp [] w w' := by
  refine (unhex_any s w hs).mono ?_
  rintro e w' ⟨v, rfl, ho, k⟩
  unfold unhexE
  rw [h] at ho ⊢
  obtain ⟨ao, cap, rfl⟩ := ho.rd.form
  simp only [Option.getD_some, bv_length] at ho ⊢
  exact ⟨ao, cap, rfl, ho, k⟩
theorem unhex_none (s : ByteArray) (w : World) (hs : s.size ≤ 281474976702464) (h : unhexL s.data.toList = none) :
    Calls Try.prog 11 #[.string s] w fun e w' => ∃ ao cap, e = .returned (.tuple #[.slice ao 0 cap, .int .i64 13]) ∧ Own w' w.heap.size 5 (.slice ao 0 cap) [] ∧ Kp [] w w' := by
  refine (unhex_any s w hs).mono ?_
  rintro e w' ⟨v, rfl, ho, k⟩
  unfold unhexE
  rw [h] at ho ⊢
  obtain ⟨ao, cap, rfl⟩ := ho.rd.form
  exact ⟨ao, cap, rfl, ho, k⟩
end Go.Proofs.Ytkceaepbjdfccaa
