/-
The document's reader: Num, Run, End, Fault.
-/
import Derived.Test.YtkceaepbjdfccaaWx7
namespace Go.Proofs.Ytkceaepbjdfccaa
open Go.RowKit
theorem fieldL_cut (b : List UInt8) (s : Rst) (n : Nat) : (fieldL b s 0 n).1.length ≤ n := by
  unfold fieldL
  split
  · simp
  · split
    · simp
    · split
      · simp
      · simp only [List.length_take]; omega
theorem Qr.wh {w : World} {B p : Nat} {rv : Value} {b : List UInt8} {s s' : Rst} (h : Qr w B p rv b s) (h1 : s'.at_ = s.at_) (h2 : s'.f = s.f) : Qr w B p rv b s' :=
  ⟨by rw [h1, h2]; exact h.hp, h.own, h.le, by rw [h1]; exact h.hat, h.hb⟩
/-- behind a call of the document's reader -/
def GotQ (B p : Nat) (rv : Value) (b : List UInt8) (s' : Rst) (v : Value) (w : World) (r : Ending) (w' : World) : Prop :=
  r = .returned v ∧ Qr w' B p rv b s' ∧ Kp [p] w w'
set_option maxRecDepth 100000 in
set_option maxHeartbeats 400000 in
theorem qnum_any (B p : Nat) (rv : Value) (b : List UInt8) (s : Rst) (n : Nat) (hn : n ≤ 4) (w : World) (hR : Qr w B p rv b s) :
    Calls Try.prog 68 #[.pointer (some ⟨p, 0, none⟩), .int .i64 (n : Int)] w (GotQ B p rv b (fieldL b s 0 n).2 (.int .i64 (numL (fieldL b s 0 n).1)) w) := by
  have HR := Lib.hid hR
  have hl := fieldL_cut b s n
  have hlo := numL_lo (fieldL b s 0 n).1
  clear hR
  go_enter Try.func68, Try.ntmps68
  go_wp2_with fail
  refine (qfixed_any B p rv b s n w HR.out).mono ?_
  rintro e w' ⟨v', rfl, ho, hr, k⟩
  obtain ⟨oa, oc, rfl⟩ := ho.rd.form
  have HO := Lib.hid ho
  have HR2 := Lib.hid hr
  clear ho hr
  go_wp2_with fail
  refine (rvalue_any _ _ w' HO.out.rd (by omega)).mono ?_
  rintro e w2 ⟨rfl, rfl⟩
  go_wp2_with fail
  go_ret
  exact ⟨rfl, HR2.out, k⟩
set_option maxRecDepth 100000 in
set_option maxHeartbeats 400000 in
theorem qend_any (B p : Nat) (rv : Value) (b : List UInt8) (s : Rst) (w : World) (hR : Qr w B p rv b s) :
    Calls Try.prog 71 #[.pointer (some ⟨p, 0, none⟩)] w (GotQ B p rv b (endL b s) (.tuple #[]) w) := by
  obtain ⟨h0, h1, h2⟩ := hR.cells
  obtain ⟨at_, wh, f⟩ := s
  have hfz2 : w.frozen? ⟨p, 2, none⟩ = false := frozen_of_row w p 2 _ _ hR.hp
  have hat := hR.hat
  simp only at h1 h2 hat
  have HR := Lib.hid hR
  clear h0 h1 hR
  by_cases hf : f = 0
  · subst hf
    by_cases hl : 0 < (b.length : Int) - at_
    · have hE := Lib.hid (show endL b ⟨at_, wh, 0⟩ = ⟨at_, at_, 11⟩ by unfold endL; rw [if_pos ⟨rfl, hl⟩])
      have hd : decide (0 < (b.length : Int) - at_) = true := by simpa using hl
      go_enter Try.func71, Try.ntmps71
      go_wp2_with fail
      refine (qleft_any B p rv b _ w HR.out).mono ?_
      rintro e w' ⟨rfl, nn, rfl⟩
      go_wp2_with fail
      go_end0
      have e2 := heap_setCell_same (w.drewN nn) p 2 _ _ (.int .i64 11) HR.out.hp
      exact ⟨rfl, by rw [hE.out]; exact HR.out.set (((Kp.refl [p] w).drewN nn).setCell (.inl (by simp)) _) e2 hat, ((Kp.refl [p] w).drewN nn).setCell (.inl (by simp)) _⟩
    · have hE := Lib.hid (show endL b ⟨at_, wh, 0⟩ = ⟨at_, wh, 0⟩ by unfold endL; rw [if_neg (fun h => hl h.2)])
      have hd : decide (0 < (b.length : Int) - at_) = false := by simpa using hl
      go_enter Try.func71, Try.ntmps71
      go_wp2_with fail
      refine (qleft_any B p rv b _ w HR.out).mono ?_
      rintro e w' ⟨rfl, nn, rfl⟩
      go_wp2_with fail
      go_end0
      exact ⟨rfl, by rw [hE.out]; exact HR.out.kp0 ((Kp.refl [] w).drewN nn), (Kp.refl [p] w).drewN nn⟩
  · have hE := Lib.hid (show endL b ⟨at_, wh, f⟩ = ⟨at_, wh, f⟩ by unfold endL; rw [if_neg (fun h => hf h.1)])
    have hfb : (f == 0) = false := by simpa using hf
    go_enter Try.func71, Try.ntmps71
    go_wp2_with fail
    go_end0
    exact ⟨rfl, by rw [hE.out]; exact HR.out, Kp.refl _ _⟩
set_option maxRecDepth 100000 in
set_option maxHeartbeats 400000 in
theorem qfault_ok (B p : Nat) (rv : Value) (b : List UInt8) (s : Rst) (w : World) (hR : Qr w B p rv b s) (hf : s.f = 0) :
    Calls Try.prog 72 #[.pointer (some ⟨p, 0, none⟩)] w fun e w' => e = .returned (.tuple #[.int .i64 0, .int .i64 0]) ∧ w = w' := by
  obtain ⟨h0, h1, h2⟩ := hR.cells
  rw [hf] at h2
  clear hR h0 h1 hf
  go_enter Try.func72, Try.ntmps72
  go_wp2_with fail
  go_ret2
  exact ⟨rfl, rfl⟩
set_option maxRecDepth 100000 in
set_option maxHeartbeats 400000 in
theorem qfault_bad (B p : Nat) (rv : Value) (b : List UInt8) (s : Rst) (w : World) (hR : Qr w B p rv b s) (hf : s.f ≠ 0) :
    Calls Try.prog 72 #[.pointer (some ⟨p, 0, none⟩)] w fun e w' => e = .returned (.tuple #[.int .i64 (s.at_ : Int), .int .i64 s.f]) ∧ ∃ n, w' = w.drewN n := by
  obtain ⟨h0, h1, h2⟩ := hR.cells
  have hfb : (s.f == 0) = false := by simpa using hf
  generalize s.f = f at *
  generalize s.at_ = a at *
  clear hR h0 hf
  go_enter Try.func72, Try.ntmps72
  go_wp2_with fail
  go_quiet (fail)
  go_wp2_with fail
  go_ret2
  exact ⟨rfl, _, rfl⟩
set_option maxRecDepth 100000 in
set_option maxHeartbeats 1000000 in
theorem qrun_any (B p : Nat) (rv : Value) (b : List UInt8) (s : Rst) (most : Int) (w : World) (hR : Qr w B p rv b s) :
    Calls Try.prog 70 #[.pointer (some ⟨p, 0, none⟩), .int .i64 most] w fun e w' => ∃ v', e = .returned v' ∧ Own w' w.heap.size 5 v' (bv (runL b s most).1) ∧ Qr w' B p rv b (runL b s most).2 ∧ Kp [p] w w' := by
  obtain ⟨h0, h1, h2⟩ := hR.cells
  obtain ⟨at_, wh, f⟩ := s
  have hat := hR.hat
  have hbl := hR.hb
  simp only at h1 h2 hat
  have HR := Lib.hid hR
  clear hR h0
  by_cases hf : f = 0
  · subst hf
    by_cases hl : (b.length : Int) - at_ < 2
    · have hL := Lib.hid (show runL b ⟨at_, wh, 0⟩ most = ([], ⟨at_, at_, 10⟩) by unfold runL; rw [if_neg (by simp), if_pos hl])
      have hF := Lib.hid (show fieldL b ⟨at_, wh, 0⟩ 0 (2 : Nat) = ([], ⟨at_, at_, 10⟩) by unfold fieldL; rw [if_neg (by simp), if_neg (by omega), if_pos (by simp only; omega)])
      go_enter Try.func70, Try.ntmps70
      go_wp2_with fail
      refine (qnum_any B p rv b _ 2 (by omega) w HR.out).mono ?_
      rintro e w' ⟨rfl, hq, k⟩
      rw [hF.out] at hq ⊢
      have HQ := Lib.hid hq
      obtain ⟨g0, g1, g2⟩ := hq.cells
      clear hq h1 h2
      simp only at g1 g2
      generalize numL [] = z
      go_wp2_with fail
      go_ret
      exact ⟨_, rfl, by rw [hL.out]; exact Own.nil _ _ _, by rw [hL.out]; exact HQ.out, k⟩
    · have hF := Lib.hid (show fieldL b ⟨at_, wh, 0⟩ 0 (2 : Nat) = ((b.drop at_).take 2, ⟨at_ + 2, wh, 0⟩) by unfold fieldL; rw [if_neg (by simp), if_neg (by omega), if_neg (by simp only; omega)]; simp)
      have hz := numL_lo ((b.drop at_).take 2)
      generalize hnum : numL ((b.drop at_).take 2) = z at hz
      by_cases hm : most < z
      · have hL := Lib.hid (show runL b ⟨at_, wh, 0⟩ most = ([], ⟨at_, at_, 12⟩) by unfold runL; rw [if_neg (by simp), if_neg hl, if_pos (by simp only; rw [hnum]; exact hm)])
        have HN := Lib.hid hnum
        clear hnum
        go_enter Try.func70, Try.ntmps70
        go_wp2_with fail
        refine (qnum_any B p rv b _ 2 (by omega) w HR.out).mono ?_
        rintro e w' ⟨rfl, hq, k⟩
        rw [hF.out] at hq ⊢
        simp only at hq ⊢
        rw [HN.out]
        have HQ := Lib.hid hq
        obtain ⟨g0, g1, g2⟩ := hq.cells
        have f2 : w'.frozen? ⟨p, 2, none⟩ = false := frozen_of_row w' p 2 _ _ hq.hp
        have f1 : w'.frozen? ⟨p, 1, none⟩ = false := frozen_of_row w' p 1 _ _ hq.hp
        clear hq h1 h2
        simp only at g1 g2
        go_wp2_with fail
        go_ret
        have e2 := heap_setCell_same w' p 2 _ _ (.int .i64 12) HQ.out.hp
        have e3 := heap_setCell_same _ p 1 _ _ (.int .i64 (at_ : Int)) e2
        have kk := ((Kp.refl [p] w').setCell (p := ⟨p, 2, none⟩) (.inl (by simp)) (.int .i64 12)).setCell (p := ⟨p, 1, none⟩) (.inl (by simp)) (.int .i64 (at_ : Int))
        exact ⟨_, rfl, by rw [hL.out]; exact Own.nil _ _ _, by rw [hL.out]; exact HQ.out.set kk e3 hat, k.trans kk (fun m hm => .inl hm)⟩
      · by_cases hs : (b.length : Int) - at_ - 2 < z
        · have hL := Lib.hid (show runL b ⟨at_, wh, 0⟩ most = ([], ⟨at_, at_, 10⟩) by
            unfold runL fieldL; rw [if_neg (by simp), if_neg hl, if_neg (by simp only; rw [hnum]; exact hm), if_neg (by simp), if_neg (by simp only; rw [hnum]; omega), if_pos (by simp only; rw [hnum]; omega)])
          have HN := Lib.hid hnum
          have hd : decide ((b.length : Int) - ((at_ + 2 : Nat) : Int) < z) = true := by simp; omega
          have hd2 : (b.length : Int) - ((at_ + 2 : Nat) : Int) < z := by omega
          clear hnum
          go_enter Try.func70, Try.ntmps70
          go_wp2_with fail
          refine (qnum_any B p rv b _ 2 (by omega) w HR.out).mono ?_
          rintro e w' ⟨rfl, hq, k⟩
          rw [hF.out] at hq ⊢
          simp only at hq ⊢
          rw [HN.out]
          have HQ := Lib.hid hq
          obtain ⟨g0, g1, g2⟩ := hq.cells
          clear hq h1 h2 g0 g1
          simp only at g2
          go_wp2_with fail
          clear g2
          refine (qleft_any B p rv b _ w' HQ.out).mono ?_
          rintro e w2 ⟨rfl, nn, rfl⟩
          have k2 : Kp [] w' (w'.drewN nn) := (Kp.refl [] w').drewN nn
          have hq2 := HQ.out.kp0 k2
          generalize w'.drewN nn = w2 at *
          obtain ⟨g0, g1, g2⟩ := hq2.cells
          have f2 : w2.frozen? ⟨p, 2, none⟩ = false := frozen_of_row w2 p 2 _ _ hq2.hp
          have f1 : w2.frozen? ⟨p, 1, none⟩ = false := frozen_of_row w2 p 1 _ _ hq2.hp
          have HQ2 := Lib.hid hq2
          clear hq2
          simp only at g1 g2 ⊢
          go_wp2_with fail
          go_ret
          have e2 := heap_setCell_same w2 p 2 _ _ (.int .i64 10) HQ2.out.hp
          have e3 := heap_setCell_same _ p 1 _ _ (.int .i64 (at_ : Int)) e2
          have kk := ((Kp.refl [p] w2).setCell (p := ⟨p, 2, none⟩) (.inl (by simp)) (.int .i64 10)).setCell (p := ⟨p, 1, none⟩) (.inl (by simp)) (.int .i64 (at_ : Int))
          exact ⟨_, rfl, by rw [hL.out]; exact Own.nil _ _ _, by rw [hL.out]; exact HQ2.out.set kk e3 hat, (k.trans0 k2).trans kk (fun m hm => .inl hm)⟩
        · have hL := Lib.hid (show runL b ⟨at_, wh, 0⟩ most = fieldL b ⟨at_ + 2, wh, 0⟩ 0 z by
            unfold runL fieldL; rw [if_neg (by simp), if_neg hl, if_neg (by simp only; rw [hnum]; exact hm), if_neg (by simp), if_neg (by simp only; rw [hnum]; omega), if_neg (by simp only; rw [hnum]; omega), if_neg (by simp), if_neg (by omega), if_neg (by simp only; omega), hnum])
          have HN := Lib.hid hnum
          have hd : decide ((b.length : Int) - ((at_ + 2 : Nat) : Int) < z) = false := by simp; omega
          have hd2 : ¬ (b.length : Int) - ((at_ + 2 : Nat) : Int) < z := by omega
          clear hnum
          rw [hL.out]
          go_enter Try.func70, Try.ntmps70
          go_wp2_with fail
          refine (qnum_any B p rv b _ 2 (by omega) w HR.out).mono ?_
          rintro e w' ⟨rfl, hq, k⟩
          rw [hF.out] at hq ⊢
          simp only at hq ⊢
          rw [HN.out]
          have HQ := Lib.hid hq
          obtain ⟨g0, g1, g2⟩ := hq.cells
          clear hq h1 h2 g0 g1
          simp only at g2
          go_wp2_with fail
          clear g2
          refine (qleft_any B p rv b _ w' HQ.out).mono ?_
          rintro e w2 ⟨rfl, nn, rfl⟩
          have k2 : Kp [] w' (w'.drewN nn) := (Kp.refl [] w').drewN nn
          have hq2 := HQ.out.kp0 k2
          generalize w'.drewN nn = w2 at *
          obtain ⟨g0, g1, g2⟩ := hq2.cells
          have HQ2 := Lib.hid hq2
          clear hq2
          simp only at g1 g2 ⊢
          go_wp2_with fail
          refine (qfixed_any B p rv b _ z w2 HQ2.out).mono ?_
          rintro e w3 ⟨v', rfl, ho, hr, k3⟩
          obtain ⟨oa, oc, rfl⟩ := ho.rd.form
          have HO := Lib.hid ho
          have HR3 := Lib.hid hr
          clear ho hr
          go_wp2_with fail
          go_ret
          exact ⟨_, rfl, HO.out.base (Nat.le_trans k.size k2.size), HR3.out, (k.trans0 k2).trans k3 (fun m hm => .inl hm)⟩
  · have hL := Lib.hid (show runL b ⟨at_, wh, f⟩ most = ([], ⟨at_, wh, f⟩) by unfold runL; rw [if_pos hf])
    have hF := Lib.hid (show fieldL b ⟨at_, wh, f⟩ 0 (2 : Nat) = ([], ⟨at_, wh, f⟩) by unfold fieldL; rw [if_pos hf])
    have hfb : (f != 0) = true := by simpa using hf
    go_enter Try.func70, Try.ntmps70
    go_wp2_with fail
    refine (qnum_any B p rv b _ 2 (by omega) w HR.out).mono ?_
    rintro e w' ⟨rfl, hq, k⟩
    rw [hF.out] at hq ⊢
    have HQ := Lib.hid hq
    obtain ⟨g0, g1, g2⟩ := hq.cells
    clear hq h1 h2
    simp only at g1 g2
    generalize numL [] = z
    go_wp2_with fail
    go_ret
    exact ⟨_, rfl, by rw [hL.out]; exact Own.nil _ _ _, by rw [hL.out]; exact HQ.out, k⟩
end Go.Proofs.Ytkceaepbjdfccaa
