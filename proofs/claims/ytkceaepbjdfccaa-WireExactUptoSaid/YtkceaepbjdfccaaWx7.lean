/-
The document's writer: Run, Out; its reader: NewReader, Left, Fixed, Num, Run, End, Fault.
-/
import Derived.Test.YtkceaepbjdfccaaWx6
namespace Go.Proofs.Ytkceaepbjdfccaa
open Go.RowKit
set_option maxRecDepth 100000 in
set_option maxHeartbeats 1000000 in
theorem vrun_any (B p : Nat) (most : Int) (ov : Value) (s : List UInt8 × Int) (v : Value) (l : List UInt8) (w : World) (hV : Vr w B p most ov s) (hB : B ≤ w.heap.size) (hv : Rd w v (bv l)) (hl : l.length ≤ 140737487306752) :
    Calls Try.prog 62 #[.pointer (some ⟨p, 0, none⟩), v] w (PutV B p most ov (putL most s (if 65535 < l.length then 12 else 0) (be16 l.length ++ l)) w) := by
  obtain ⟨ao, cap, rfl⟩ := hv.form
  rw [bv_length] at hv ⊢
  have HV := Lib.hid hV
  have HR := Lib.hid hv
  clear hV hv
  by_cases h : 65535 < l.length
  · rw [if_pos h]
    have HE := Lib.hid (putL_e most s 12 (be16 l.length ++ l) [] (by decide))
    rw [HE.out]
    clear HE
    go_enter Try.func62, Try.ntmps62
    go_wp2_with fail
    refine (vfield_any B p most ov s (.slice none 0 0) [] 12 w HV.out hB (Rd.nil _) (by simp)).mono ?_
    rintro r w' ⟨ov', rfl, h⟩
    go_wp2_with fail
    refine bodyPost_ret (results_none rfl _ _ _) rfl ?_
    exact ⟨ov', rfl, h⟩
  · rw [if_neg h]
    go_enter Try.func62, Try.ntmps62
    go_wp2_with fail
    refine (rnumber_any l.length 2 w (by omega) (by omega) (by omega)).mono ?_
    rintro r w1 ⟨x, rfl, ho, k⟩
    have HO := Lib.hid ho
    clear ho
    go_wp2_with (first
      | (at_builtin; go_must (refine wpl_append2 el_u8 rfl (.tmp 12) (.tmp 13) rfl (B := w.heap.size) rfl rfl HO.out (HR.out.kp0 k) (bv_oneCell _) (by rw [bv_length, bv_length, numB_len]; omega) (by rw [bv_length, bv_length, numB_len]; omega) k.size ?_); intro v2 w2 ho2 hg2 hwh; have k2 : Kp [] w w2 := k.grown hg2 (fun g hg => .inr (HO.out.lt hg).1); have HO2 := Lib.hid ho2; clear ho2 hg2 hwh)
      | (refine (vfield_any B p most ov s _ (be16 l.length ++ l) 0 _ (HV.out.kp0 k2) (Nat.le_trans hB k2.size) (by have h := HO2.out.rd; rw [← bv_append, numB_two] at h; exact h) (by unfold be16; simp; omega)).mono ?_; intro r w' hh; obtain ⟨ov', rfl, h1, h2, h3⟩ := PutV.later k2 hh)
      | fail)
    go_end0
    exact ⟨ov', rfl, h1, h2, h3⟩
set_option maxRecDepth 100000 in
set_option maxHeartbeats 400000 in
theorem vout_ok (B p : Nat) (most : Int) (ov : Value) (l : List UInt8) (w : World) (hV : Vr w B p most ov (l, 0)) :
    Calls Try.prog 63 #[.pointer (some ⟨p, 0, none⟩)] w fun e w' => ∃ v, e = .returned (.tuple #[v, .int .i64 0]) ∧ Own w' w.heap.size 5 v (bv l) ∧ Kp [] w w' := by
  obtain ⟨hc0, hc1, hc2⟩ := hV.cells
  obtain ⟨oa, oc, rfl⟩ := hV.own.rd.form
  rw [bv_length] at hc1 hV
  have HR := Lib.hid (show Rd w (.slice oa l.length oc) (bv l) from hV.own.rd)
  have HL : Hid (l.length ≤ 1048576) := Lib.hid (by have := hV.hl; have := hV.hm; simp at *; omega)
  clear hV hc0
  go_enter Try.func63, Try.ntmps63
  go_wp2_with (first
    | (at_builtin; go_must (refine wpl_append2 el_u8 rfl (.const (.slice none 0 0)) (.tmp 16) rfl (B := w.heap.size) rfl rfl (Own.nil _ _ _) HR.out (bv_oneCell _) (by rw [bv_length]; simp; have := HL.out; omega) (by rw [bv_length]; simp; have := HL.out; omega) (Nat.le_refl _) ?_); intro v2 w2 ho2 hg2 hwh; have k2 : Kp [] w w2 := (Kp.refl [] w).grown hg2 (fun g hg => by cases hg); have HO2 := Lib.hid ho2; clear ho2 hg2 hwh; obtain ⟨oa2, oc2, rfl⟩ := HO2.out.rd.form)
    | fail)
  go_ret2
  exact ⟨_, rfl, HO2.out, k2⟩
set_option maxRecDepth 100000 in
set_option maxHeartbeats 400000 in
theorem vout_bad (B p : Nat) (most : Int) (ov : Value) (l : List UInt8) (f : Int) (hf : f ≠ 0) (w : World) (hV : Vr w B p most ov (l, f)) :
    Calls Try.prog 63 #[.pointer (some ⟨p, 0, none⟩)] w fun e w' => e = .returned (.tuple #[.slice none 0 0, .int .i64 f]) ∧ Kp [] w w' := by
  obtain ⟨hc0, hc1, hc2⟩ := hV.cells
  have hfb : (f != 0) = true := by simpa using hf
  clear hV hf hc0 hc1
  go_enter Try.func63, Try.ntmps63
  go_wp2_with fail
  go_quiet (fail)
  go_wp2_with fail
  go_ret2
  exact ⟨rfl, (Kp.refl [] w).drewN _⟩
set_option maxRecDepth 100000 in
set_option maxHeartbeats 400000 in
theorem qnew_any (v : Value) (l : List UInt8) (w : World) (hv : Rd w v (bv l)) (hl : l.length ≤ 140737487306752) :
    Calls Try.prog 67 #[v] w fun e w' => ∃ p rv, e = .returned (.pointer (some ⟨p, 0, none⟩)) ∧ Qr w' w.heap.size p rv l ⟨0, 0, 0⟩ ∧ Kp [] w w' := by
  obtain ⟨ao, ac, rfl⟩ := hv.form
  rw [bv_length] at hv ⊢
  have HR := Lib.hid hv
  clear hv
  go_enter Try.func67, Try.ntmps67
  go_wp2_with (first
    | (at_builtin; go_must (refine wpl_append2 el_u8 rfl (.const (.slice none 0 0)) (.tmp 3) rfl (B := w.heap.size) rfl rfl (Own.nil _ _ _) HR.out (bv_oneCell _) (by rw [bv_length]; simp; omega) (by rw [bv_length]; simp; omega) (Nat.le_refl _) ?_); intro v2 w2 ho2 hg2 hwh; have k2 : Kp [] w w2 := (Kp.refl [] w).grown hg2 (fun g hg => by cases hg); have HO2 := Lib.hid ho2; clear ho2 hg2 hwh; obtain ⟨oa2, oc2, rfl⟩ := HO2.out.rd.form)
    | fail)
  go_ret
  refine ⟨_, _, rfl, ⟨heap_alloc_new _ _, HO2.out.kp0 ((Kp.refl [] _).alloc _), k2.size, Nat.zero_le _, by omega⟩, k2.alloc _⟩
set_option maxRecDepth 100000 in
set_option maxHeartbeats 400000 in
theorem qleft_any (B p : Nat) (rv : Value) (b : List UInt8) (s : Rst) (w : World) (hR : Qr w B p rv b s) :
    Calls Try.prog 73 #[.pointer (some ⟨p, 0, none⟩)] w fun e w' => e = .returned (.int .i64 ((b.length : Int) - s.at_)) ∧ ∃ n, w' = w.drewN n := by
  obtain ⟨h0, h1, h2⟩ := hR.cells
  obtain ⟨ao, ac, rfl⟩ := hR.own.rd.form
  rw [bv_length] at h0
  have ha := hR.hat
  have hb := hR.hb
  clear hR h2
  go_enter Try.func73, Try.ntmps73
  go_wp2_with fail
  go_quiet (fail)
  go_wp2_with fail
  go_ret
  exact ⟨rfl, _, rfl⟩
set_option maxRecDepth 100000 in
set_option maxHeartbeats 1000000 in
theorem qfixed_any (B p : Nat) (rv : Value) (b : List UInt8) (s : Rst) (n : Int) (w : World) (hR : Qr w B p rv b s) :
    Calls Try.prog 69 #[.pointer (some ⟨p, 0, none⟩), .int .i64 n] w fun e w' => ∃ v', e = .returned v' ∧ Own w' w.heap.size 5 v' (bv (fieldL b s 0 n).1) ∧ Qr w' B p rv b (fieldL b s 0 n).2 ∧ Kp [p] w w' := by
  obtain ⟨h0, h1, h2⟩ := hR.cells
  obtain ⟨at_, wh, f⟩ := s
  have hat := hR.hat
  have hbl := hR.hb
  have hfz2 : w.frozen? ⟨p, 2, none⟩ = false := frozen_of_row w p 2 _ _ hR.hp
  have hfz1 : w.frozen? ⟨p, 1, none⟩ = false := frozen_of_row w p 1 _ _ hR.hp
  simp only at h1 h2 hat
  by_cases hf : f = 0
  · subst hf
    by_cases hn0 : n < 0
    · have hL : fieldL b ⟨at_, wh, 0⟩ 0 n = ([], ⟨at_, at_, 4⟩) := by unfold fieldL; rw [if_neg (by simp), if_pos hn0]
      have HL := Lib.hid hL
      have HR := Lib.hid hR
      clear hL hR
      go_enter Try.func69, Try.ntmps69
      go_wp2_with fail
      go_ret
      have e2 := heap_setCell_same w p 2 _ _ (.int .i64 4) HR.out.hp
      exact ⟨_, rfl, by rw [HL.out]; exact Own.nil _ _ _, by rw [HL.out]; exact HR.out.set ((Kp.refl [p] w).setCell (.inl (by simp)) _) e2 hat, (Kp.refl [p] w).setCell (.inl (by simp)) _⟩
    · by_cases hlong : (b.length : Int) - at_ < n
      · have hd0 : decide (n < 0) = false := by simpa using hn0
        have hd1 : decide ((b.length : Int) - at_ < n) = true := by simpa using hlong
        have hL : fieldL b ⟨at_, wh, 0⟩ 0 n = ([], ⟨at_, at_, 10⟩) := by unfold fieldL; rw [if_neg (by simp), if_neg hn0, if_pos (by simp only; omega)]
        have HL := Lib.hid hL
        have HR := Lib.hid hR
        clear hL hR
        go_enter Try.func69, Try.ntmps69
        go_wp2_with fail
        refine (qleft_any B p rv b _ w HR.out).mono ?_
        rintro e w' ⟨rfl, nn, rfl⟩
        go_wp2_with fail
        go_ret
        have e2 := heap_setCell_same (w.drewN nn) p 2 _ _ (.int .i64 10) HR.out.hp
        exact ⟨_, rfl, by rw [HL.out]; exact Own.nil _ _ _, by rw [HL.out]; exact HR.out.set (((Kp.refl [p] w).drewN nn).setCell (.inl (by simp)) _) e2 hat, ((Kp.refl [p] w).drewN nn).setCell (.inl (by simp)) _⟩
      · obtain ⟨m, rfl⟩ : ∃ m : Nat, n = m := ⟨n.toNat, by omega⟩
        have hL : fieldL b ⟨at_, wh, 0⟩ 0 m = ((b.drop at_).take m, ⟨at_ + m, wh, 0⟩) := by unfold fieldL; rw [if_neg (by simp), if_neg hn0, if_neg (by simp only; omega)]; simp
        have HL := Lib.hid hL
        have HR := Lib.hid hR
        obtain ⟨ao, ac, hrv⟩ := hR.own.rd.form
        rw [bv_length] at hrv
        subst hrv
        have hrd := hR.own.rd
        clear hL hR
        go_enter Try.func69, Try.ntmps69
        go_wp2_with fail
        refine (qleft_any B p _ b _ w HR.out).mono ?_
        rintro e w' ⟨rfl, nn, rfl⟩
        go_wp2_with fail
        have g0 : (w.drewN nn).cell? ⟨p, 0, none⟩ = some (.slice ao b.length ac) := h0
        have g1 : (w.drewN nn).cell? ⟨p, 1, none⟩ = some (.int .i64 (at_ : Int)) := h1
        have f1 : (w.drewN nn).frozen? ⟨p, 1, none⟩ = false := hfz1
        have HP : Hid ((w.drewN nn).heap[p]? = some (.cells #[.slice ao b.length ac, .int .i64 (at_ : Int), .int .i64 0] 131 (0, 0))) := Lib.hid HR.out.hp
        have HK : Hid (Kp [] w (w.drewN nn)) := Lib.hid ((Kp.refl [] w).drewN nn)
        have hrd2 : Rd (w.drewN nn) (.slice ao b.length ac) (bv b) := hrd
        clear h0 h1 h2 hfz1 hfz2 hrd
        generalize w.drewN nn = W at *
        obtain ⟨a1, n1, c1, s1, r1⟩ := run_subb_lh el_u8 hrd2 (at_ : Int) ((at_ : Int) + (m : Int)) (by omega) (by omega) (by omega)
        have e1 : (at_ : Int).toNat = at_ := by omega
        have e2 : ((at_ : Int) + (m : Int)).toNat = at_ + m := by omega
        rw [e1, e2] at r1
        have R1 := Lib.hid r1
        have hfl : Hid (List.drop at_ (List.take (at_ + m) b) = (b.drop at_).take m) := Lib.hid (by simp [List.drop_take])
        have hlen : Hid (((b.drop at_).take m).length ≤ 140737487306752 ∧ ((b.drop at_).take m).length ≤ b.length) := Lib.hid ⟨by simp; omega, by simp; omega⟩
        have R2 : Hid (Rd W (.slice a1 n1 c1) (bv ((b.drop at_).take m))) := Lib.hid (by have h := R1.out; rw [hfl.out] at h; exact h)
        clear r1 e1 e2 R1 hfl hrd2
        generalize (b.drop at_).take m = Lr at *
        have hw1 : IntKind.i64.wrap ((at_ : Int) + (m : Int)) = (at_ : Int) + (m : Int) := IntWalk.i64_in _ (by omega)
        go_region_law (refine step_append2 el_u8 rfl (.const (.slice none 0 0)) (.tmp 37) rfl (B := W.heap.size) rfl rfl (Own.nil _ _ _) (show Rd _ _ (bv Lr) from R2.out) (bv_oneCell _) (by rw [bv_length]; simp; have := hlen.out; omega) (by rw [bv_length]; simp; have := hlen.out; omega) (Nat.le_refl _) ?_; intro v2 w2 ho2 hg2 hb2)
        all_goals
          have k2 : Kp [] W w2 := ((Kp.refl [] W).drew).grown hg2 (fun g hg => by cases hg)
          have q0 := k2.cell_some g0 (by simp)
          have q1 := k2.cell_some g1 (by simp)
          have hp2 := k2.heap HP.out (by simp)
          have q2 : w2.frozen? ⟨p, 1, none⟩ = false := frozen_of_row w2 p 1 _ _ hp2
          have HP2 := Lib.hid hp2
          have HO2 := Lib.hid ho2
          obtain ⟨oa2, oc2, rfl⟩ := HO2.out.rd.form
          clear ho2 hg2 hb2 hp2 g0 g1 f1
          go_wp2_with fail
          go_ret
          have e2 := heap_setCell_same w2 p 1 _ _ (.int .i64 ((at_ : Int) + (m : Int))) HP2.out
          have hks : Kp [p] w (w2.setCell ⟨p, 1, none⟩ (.int .i64 ((at_ : Int) + (m : Int)))) := ((HK.out.trans0 k2).mono (by simp)).setCell (.inl (by simp)) _
          refine ⟨_, rfl, ?_, ?_, hks⟩
          · rw [HL.out]
            refine (HO2.out.base HK.out.size).kp ((Kp.refl [p] w2).setCell (.inl (by simp)) _) (fun g hg => ?_)
            rw [List.mem_singleton]
            intro e
            subst e
            exact HO2.out.not_at HP2.out (by decide) hg
          · rw [HL.out]
            exact HR.out.set hks (by rw [e2, show (at_ : Int) + (m : Int) = ((at_ + m : Nat) : Int) by omega]; rfl) (by simp only; omega)
  · have hfb : (f != 0) = true := by simpa using hf
    have hL : fieldL b ⟨at_, wh, f⟩ 0 n = ([], ⟨at_, wh, f⟩) := by unfold fieldL; rw [if_pos hf]
    have HL := Lib.hid hL
    have HR := Lib.hid hR
    clear hL hR hf
    go_enter Try.func69, Try.ntmps69
    go_wp2_with fail
    go_ret
    exact ⟨_, rfl, by rw [HL.out]; exact Own.nil _ _ _, by rw [HL.out]; exact HR.out, Kp.refl _ _⟩
end Go.Proofs.Ytkceaepbjdfccaa
