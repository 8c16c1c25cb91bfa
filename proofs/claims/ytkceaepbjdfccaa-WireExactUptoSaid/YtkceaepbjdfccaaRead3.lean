/-
What a reader's Run comes to.
-/
import Derived.Test.YtkceaepbjdfccaaRead2
namespace Go.Proofs.Ytkceaepbjdfccaa
open Go.RowKit
set_option maxRecDepth 100000 in
set_option maxHeartbeats 1000000 in
theorem rRun_any (B p : Nat) (rv : Value) (b : List UInt8) (s : Rst) (most : Int) (w : World) (hR : Rr w B p rv b s) :
    Calls Try.prog 37 #[.pointer (some ⟨p, 0, none⟩), .int .i64 most] w fun e w' => ∃ v', e = .returned v' ∧ Own w' w.heap.size 5 v' (bv (runL b s most).1) ∧ Rr w' B p rv b (runL b s most).2 ∧ Kp [p] w w' := by
  obtain ⟨h0, h1, h2, h3⟩ := hR.cells
  obtain ⟨at_, wh, f⟩ := s
  have hat := hR.hat
  have hbl := hR.hb
  have hfz2 : w.frozen? ⟨p, 2, none⟩ = false := frozen_of_row w p 2 _ _ hR.hp
  have hfz3 : w.frozen? ⟨p, 3, none⟩ = false := frozen_of_row w p 3 _ _ hR.hp
  simp only at h1 h2 h3 hat
  by_cases hf : f = 0
  · subst hf
    by_cases hl : (b.length : Int) - at_ < 2
    · have HL : Hid (runL b ⟨at_, wh, 0⟩ most = fieldL b ⟨at_, wh, 0⟩ 2 0) := Lib.hid (by
        unfold runL fieldL
        rw [if_neg (by simp), if_pos hl, if_neg (by simp), if_neg (by simp), if_pos (by simp only; omega)])
      have HR := Lib.hid hR
      clear hR h0 h2
      have hd : decide (2 ≤ (b.length : Int) - at_) = false := by simp; omega
      go_enter Try.func37, Try.ntmps37
      go_wp2_with fail
      refine (left_any B p rv b _ w HR.out).mono ?_
      rintro e w' ⟨rfl, nn, rfl⟩
      go_wp2_with fail
      refine (field_any B p rv b _ 2 0 _ (HR.out.kp0 ((Kp.refl [] w).drewN nn)) (by omega) (by omega)).mono ?_
      rintro e w' ⟨v', rfl, ho, hr, k⟩
      have HO := Lib.hid ho
      have HR2 := Lib.hid hr
      clear ho hr
      go_wp2_with fail
      go_ret
      exact ⟨v', rfl, by rw [HL.out]; exact HO.out, by rw [HL.out]; exact HR2.out, ((Kp.refl [p] w).drewN nn).trans k (fun m hm => .inl hm)⟩
    · have hd : decide (2 ≤ (b.length : Int) - at_) = true := by simp; omega
      obtain ⟨ao, ac, hrv⟩ := hR.own.rd.form
      rw [bv_length] at hrv
      subst hrv
      obtain ⟨a1, n1, c1, s1, r1⟩ := run_subb_lh el_u8 hR.own.rd (at_ : Int) ((at_ : Int) + 2) (by omega) (by omega) (by omega)
      have hw1 : IntKind.i64.wrap ((at_ : Int) + 2) = (at_ : Int) + 2 := IntWalk.i64_in _ (by omega)
      have R1 : Hid (Rd w (.slice a1 n1 c1) (bv ((b.drop at_).take 2))) := Lib.hid (by
        rw [Int.toNat_natCast, show ((at_ : Int) + 2).toNat = at_ + 2 by omega, List.drop_take, Nat.add_sub_cancel_left] at r1
        exact r1)
      have hN := numL_lo ((b.drop at_).take 2)
      have hS := numL_small ((b.drop at_).take 2)
      have hlen : ((b.drop at_).take 2).length ≤ 211106232532992 := by simp; omega
      have HR := Lib.hid hR
      have HE : ¬ (b.length : Int) - at_ < 2 := hl
      have HE2 := Lib.hid HE
      clear hR r1 HE
      by_cases hm : most < numL ((b.drop at_).take 2)
      · have HL : Hid (runL b ⟨at_, wh, 0⟩ most = ([], ⟨at_, at_, 12⟩)) := Lib.hid (by unfold runL; rw [if_neg (by simp), if_neg HE2.out, if_pos hm])
        have hdm : decide (most < numL ((b.drop at_).take 2)) = true := by simpa using hm
        generalize hX : (b.drop at_).take 2 = X at *
        clear hX
        go_enter Try.func37, Try.ntmps37
        go_wp2_with fail
        refine (left_any B p _ b _ w HR.out).mono ?_
        rintro e w' ⟨rfl, nn, rfl⟩
        have g0 : (w.drewN nn).cell? ⟨p, 0, none⟩ = some (.slice ao b.length ac) := h0
        have g1 : (w.drewN nn).cell? ⟨p, 1, none⟩ = some (.int .i64 (at_ : Int)) := h1
        have gz2 : (w.drewN nn).frozen? ⟨p, 2, none⟩ = false := hfz2
        have gz3 : (w.drewN nn).frozen? ⟨p, 3, none⟩ = false := hfz3
        have g2 : (w.drewN nn).cell? ⟨p, 2, none⟩ = some (.int .i64 wh) := h2
        have g3 : (w.drewN nn).cell? ⟨p, 3, none⟩ = some (.int .i64 0) := h3
        have RW : Hid (Rd (w.drewN nn) (.slice a1 n1 c1) (bv X)) := Lib.hid R1.out
        have HRW : Hid (Rr (w.drewN nn) B p (.slice ao b.length ac) b ⟨at_, wh, 0⟩) := Lib.hid (HR.out.kp0 ((Kp.refl [] w).drewN nn))
        have KW : Hid (Kp [p] w (w.drewN nn)) := Lib.hid ((Kp.refl [p] w).drewN nn)
        clear h0 h1 h2 h3 hfz2 hfz3 HR R1
        generalize w.drewN nn = W at *
        go_wp2_with fail
        go_quiet ((go_at_call 56; exact quietS (number_any _ X _ RW.out hlen)))
        go_wp2_with fail
        go_ret
        have e1 := heap_setCell_same (W.drewN nq) p 2 _ _ (.int .i64 (at_ : Int)) HRW.out.hp
        have e2 := heap_setCell_same _ p 3 _ _ (.int .i64 12) e1
        have kk0 := (((Kp.refl [p] W).drewN nq).setCell (p := ⟨p, 2, none⟩) (.inl (by simp)) (.int .i64 (at_ : Int))).setCell (p := ⟨p, 3, none⟩) (.inl (by simp)) (.int .i64 12)
        have kk := ((KW.out.drewN nq).setCell (p := ⟨p, 2, none⟩) (.inl (by simp)) (.int .i64 (at_ : Int))).setCell (p := ⟨p, 3, none⟩) (.inl (by simp)) (.int .i64 12)
        exact ⟨_, rfl, by rw [HL.out]; exact Own.nil _ _ _, by rw [HL.out]; exact HRW.out.set kk0 e2 hat, kk⟩
      · have HL : Hid (runL b ⟨at_, wh, 0⟩ most = fieldL b ⟨at_, wh, 0⟩ 2 (numL ((b.drop at_).take 2))) := Lib.hid (by unfold runL; rw [if_neg (by simp), if_neg HE2.out, if_neg hm])
        have hdm : decide (most < numL ((b.drop at_).take 2)) = false := by simpa using hm
        generalize hX : (b.drop at_).take 2 = X at *
        clear hX
        go_enter Try.func37, Try.ntmps37
        go_wp2_with fail
        refine (left_any B p _ b _ w HR.out).mono ?_
        rintro e w' ⟨rfl, nn, rfl⟩
        have g0 : (w.drewN nn).cell? ⟨p, 0, none⟩ = some (.slice ao b.length ac) := h0
        have g1 : (w.drewN nn).cell? ⟨p, 1, none⟩ = some (.int .i64 (at_ : Int)) := h1
        have gz2 : (w.drewN nn).frozen? ⟨p, 2, none⟩ = false := hfz2
        have gz3 : (w.drewN nn).frozen? ⟨p, 3, none⟩ = false := hfz3
        have g2 : (w.drewN nn).cell? ⟨p, 2, none⟩ = some (.int .i64 wh) := h2
        have g3 : (w.drewN nn).cell? ⟨p, 3, none⟩ = some (.int .i64 0) := h3
        have RW : Hid (Rd (w.drewN nn) (.slice a1 n1 c1) (bv X)) := Lib.hid R1.out
        have HRW : Hid (Rr (w.drewN nn) B p (.slice ao b.length ac) b ⟨at_, wh, 0⟩) := Lib.hid (HR.out.kp0 ((Kp.refl [] w).drewN nn))
        have KW : Hid (Kp [p] w (w.drewN nn)) := Lib.hid ((Kp.refl [p] w).drewN nn)
        clear h0 h1 h2 h3 hfz2 hfz3 HR R1
        generalize w.drewN nn = W at *
        go_wp2_with fail
        go_quiet ((go_at_call 56; exact quietS (number_any _ X _ RW.out hlen)))
        go_wp2_with fail
        refine (field_any B p _ b _ 2 (numL X) _ (HRW.out.kp0 ((Kp.refl [] W).drewN _)) (by omega) (by omega)).mono ?_
        rintro e w' ⟨v', rfl, ho, hr, k⟩
        have HO := Lib.hid ho
        have HR2 := Lib.hid hr
        clear ho hr
        go_wp2_with fail
        go_ret
        exact ⟨v', rfl, by rw [HL.out]; exact HO.out.base KW.out.size, by rw [HL.out]; exact HR2.out, (KW.out.drewN _).trans k (fun m hm => .inl hm)⟩
  · have HL : Hid (runL b ⟨at_, wh, f⟩ most = ([], ⟨at_, wh, f⟩)) := Lib.hid (by unfold runL; rw [if_pos hf])
    have hfb : (f != 0) = true := by simpa using hf
    have HR := Lib.hid hR
    clear hR hf
    go_enter Try.func37, Try.ntmps37
    go_wp2_with fail
    go_ret
    exact ⟨_, rfl, by rw [HL.out]; exact Own.nil _ _ _, by rw [HL.out]; exact HR.out, Kp.refl _ _⟩
end Go.Proofs.Ytkceaepbjdfccaa
