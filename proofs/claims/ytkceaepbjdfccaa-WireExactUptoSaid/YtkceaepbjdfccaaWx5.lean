/-
The document's writer: NewWriter, field, Num, Fixed, Run, Out.
-/
import Derived.Test.YtkceaepbjdfccaaWx4
import Derived.Test.YtkceaepbjdfccaaWxC
namespace Go.Proofs.Ytkceaepbjdfccaa
open Go.RowKit
set_option maxRecDepth 100000 in
set_option maxHeartbeats 400000 in
theorem vnew_yes (n : Int) (w : World) (h0 : 0 ≤ n) (h1 : n ≤ 1048576) :
    Calls Try.prog 59 #[.int .i64 n] w fun e w' => e = .returned (.tuple #[.pointer (some ⟨w.heap.size, 0, none⟩), .int .i64 0]) ∧
      Vr w' w.heap.size w.heap.size n (.slice none 0 0) ([], 0) ∧ Kp [] w w' := by
  go_enter Try.func59, Try.ntmps59
  go_wp2
  go_ret2
  exact ⟨rfl, ⟨heap_alloc_new _ _, Own.nil _ _ _, Nat.le_refl _, h0, h1⟩, (Kp.refl _ _).alloc _⟩
set_option maxRecDepth 100000 in
set_option maxHeartbeats 400000 in
theorem vnew_no (n : Int) (w : World) (h : n < 0 ∨ 1048576 < n) :
    Calls Try.prog 59 #[.int .i64 n] w fun e w' => e = .returned (.tuple #[.pointer none, .int .i64 4]) ∧ w = w' := by
  rcases h with h | h
  · go_enter Try.func59, Try.ntmps59
    go_wp2
    go_ret2
    exact ⟨rfl, rfl⟩
  · have h0 : ¬ n < 0 := by omega
    go_enter Try.func59, Try.ntmps59
    go_wp2
    go_ret2
    exact ⟨rfl, rfl⟩
/-- behind a call of the document's writer -/
def PutV (B p : Nat) (most : Int) (ov : Value) (s' : List UInt8 × Int) (w : World) (r : Ending) (w' : World) : Prop :=
  ∃ ov', r = .returned (.tuple #[]) ∧ Vr w' B p most ov' s' ∧ Kp (p :: ob ov) w w' ∧ ∀ b ∈ ob ov', b ∈ ob ov ∨ w.heap.size ≤ b
theorem PutV.later {B p : Nat} {most : Int} {ov : Value} {s' : List UInt8 × Int} {w w1 : World} (k : Kp [] w w1) {r : Ending} {w' : World} (h : PutV B p most ov s' w1 r w') : PutV B p most ov s' w r w' := by
  obtain ⟨ov', h1, h2, h3, h4⟩ := h
  exact ⟨ov', h1, h2, (k.mono (by simp)).trans h3 (fun m hm => .inl hm), fun b hb => (h4 b hb).imp id (fun h => Nat.le_trans k.size h)⟩
theorem Vr.fault {w : World} {B p : Nat} {most : Int} {ov : Value} {l : List UInt8} (h : Vr w B p most ov (l, 0)) (n : Nat) (e : Int) : Vr ((w.drewN n).setCell ⟨p, 2, none⟩ (.int .i64 e)) B p most ov (l, e) := by
  refine ⟨heap_setCell_same (w.drewN n) p 2 _ _ _ h.hp, h.own.kp (((Kp.refl [p] w).drewN n).setCell (p := ⟨p, 2, none⟩) (.inl (List.mem_singleton.2 rfl)) _) (fun b hb => ?_), h.le, h.hl, h.hm⟩
  rw [List.mem_singleton]
  intro e
  subst e
  exact h.ne (mem_ob.2 hb)
set_option maxRecDepth 100000 in
set_option maxHeartbeats 1000000 in
theorem vfield_any (B p : Nat) (most : Int) (ov : Value) (s : List UInt8 × Int) (x : Value) (l : List UInt8) (e : Int) (w : World)
    (hV : Vr w B p most ov s) (hB : B ≤ w.heap.size) (hx : Rd w x (bv l)) (hl : l.length ≤ 140737487306752) :
    Calls Try.prog 76 #[.pointer (some ⟨p, 0, none⟩), x, .int .i64 e] w (PutV B p most ov (putL most s e l) w) := by
  obtain ⟨xa, xc, rfl⟩ := hx.form
  rw [bv_length] at hx ⊢
  obtain ⟨a, f⟩ := s
  obtain ⟨hc0, hc1, hc2⟩ := hV.cells
  by_cases hf : f = 0
  · subst hf
    obtain ⟨oa, oc, hov⟩ := hV.own.rd.form
    rw [bv_length] at hov
    simp only at hov
    subst hov
    have hfz1 : w.frozen? ⟨p, 1, none⟩ = false := frozen_of_row w p 1 _ _ hV.hp
    have hfz2 : w.frozen? ⟨p, 2, none⟩ = false := frozen_of_row w p 2 _ _ hV.hp
    have hlm : (a.length : Int) ≤ most := hV.hl
    have hmm : most ≤ 1048576 := hV.hm
    have HV := Lib.hid hV
    have HX := Lib.hid hx
    clear hV hx
    by_cases he : e = 0
    · subst he
      by_cases hroom : most - (a.length : Int) < (l.length : Int)
      · have hP : putL most (a, 0) 0 l = (a, 5) := putL_long _ _ _ hroom
        have HP := Lib.hid hP
        have hd : decide (most < (a.length : Int) + (l.length : Int)) = true := by simp; omega
        clear hP
        go_enter Try.func76, Try.ntmps76
        go_wp2_with fail
        go_quiet (fail)
        go_wp2_with fail
        refine bodyPost_ret (results_none rfl _ _ _) rfl ?_
        have h2 := HV.out.fault nq 5
        refine ⟨_, rfl, ?_, ((Kp.refl _ w).drewN nq).setCell (.inl (by simp)) _, fun b hb => .inl hb⟩
        rw [HP.out]; exact h2
      · have hd : decide (most < (a.length : Int) + (l.length : Int)) = false := by simp; omega
        have hP : putL most (a, 0) 0 l = (a ++ l, 0) := putL_ok _ _ _ hroom
        have HP := Lib.hid hP
        clear hP
        go_enter Try.func76, Try.ntmps76
        go_wp2_with fail
        go_quiet (fail)
        have hp1 : (w.drewN nq).heap[p]? = some (.cells #[.int .i64 most, .slice oa a.length oc, .int .i64 0] 127 (0, 0)) := HV.out.hp
        have HP1 := Lib.hid hp1
        clear hp1
        go_wp2_with (first
          | (at_builtin; go_must (refine wpl_append2 el_u8 rfl (.tmp 38) (.tmp 39) rfl (B := B) rfl rfl (show Own (w.drewN nq) B _ (.slice oa a.length oc) (bv a) from HV.out.own) (show Rd (w.drewN nq) _ (bv l) from HX.out) (bv_oneCell _) (by rw [bv_length, bv_length]; omega) (by rw [bv_length, bv_length]; omega) hB ?_); intro v2 w2 ho2 hg2 hwh; obtain ⟨a2, cc2, rfl⟩ := ho2.rd.form; generalize hn2 : (bv a ++ bv l).length = n2 at ho2 hwh ⊢; have HO2 := Lib.hid ho2; have HG2 := Lib.hid hg2; have HWH := Lib.hid hwh; clear ho2 hg2 hwh hn2; have hp2 : w2.heap[p]? = some (.cells #[.int .i64 most, .slice oa a.length oc, .int .i64 0] 127 (0, 0)) := (by rw [HG2.out.block p ((Array.getElem?_eq_some_iff.1 HP1.out).1) (fun e => HV.out.ne (mem_ob.2 e.symm))]; exact HP1.out); have hf2 : w2.frozen? ⟨p, 1, none⟩ = false := frozen_of_row w2 p 1 _ _ hp2; have hcc2 : w2.cell? ⟨p, 1, none⟩ = some (.slice oa a.length oc) := (by rw [cell_of_row w2 p 1 _ _ _ hp2]; rfl); have HP2 := Lib.hid hp2; clear hp2)
          | fail)
        go_end0
        have hw2 : Kp (p :: ob (.slice oa a.length oc)) w w2 := ((Kp.refl _ w).drewN nq).grown HG2.out (fun b hb => .inl (List.mem_cons_of_mem _ (mem_ob.2 hb)))
        refine ⟨.slice a2 n2 cc2, rfl, ?_, hw2.setCell (.inl (by simp)) _, fun b hb => ?_⟩
        · rw [HP.out]
          refine ⟨heap_setCell_same w2 p 1 _ _ _ HP2.out, ?_, HV.out.le, ?_, hmm⟩
          · have h := HO2.out
            rw [← bv_append] at h
            refine h.kp ((Kp.refl [p] w2).setCell (p := ⟨p, 1, none⟩) (.inl (List.mem_singleton.2 rfl)) _) (fun b hb => ?_)
            rw [List.mem_singleton]
            intro e
            subst e
            exact h.not_at HP2.out (by decide) hb
          · simp only [List.length_append]; omega
        · rcases HWH.out b (mem_ob.1 hb) with h | h
          · exact .inl (mem_ob.2 h)
          · exact .inr h
    · have heb : (e == 0) = false := by simpa using he
      have heb2 : (e != 0) = true := by simpa using he
      have hP : putL most (a, 0) e l = (a, e) := putL_err _ _ _ _ he
      have HP := Lib.hid hP
      clear hP
      go_enter Try.func76, Try.ntmps76
      go_wp2_with fail
      go_quiet (fail)
      go_wp2_with fail
      refine bodyPost_ret (results_none rfl _ _ _) rfl ?_
      have h2 := HV.out.fault nq e
      refine ⟨_, rfl, ?_, ((Kp.refl _ w).drewN nq).setCell (.inl (by simp)) _, fun b hb => .inl hb⟩
      rw [HP.out]; exact h2
  · have hfb : (f != 0) = true := by simpa using hf
    have hP : putL most (a, f) e l = (a, f) := putL_fault _ _ _ _ _ hf
    have HP := Lib.hid hP
    have HV := Lib.hid hV
    clear hP hV hx
    go_enter Try.func76, Try.ntmps76
    go_wp2_with fail
    refine bodyPost_ret (results_none rfl _ _ _) rfl ?_
    exact ⟨ov, rfl, by rw [HP.out]; exact HV.out, Kp.refl _ _, fun b hb => .inl hb⟩
theorem putL_e (most : Int) (s : List UInt8 × Int) (e : Int) (x y : List UInt8) (h : e ≠ 0) : putL most s e x = putL most s e y := by
  unfold putL; by_cases h2 : s.2 ≠ 0
  · rw [if_pos h2, if_pos h2]
  · rw [if_neg h2, if_neg h2, if_pos h, if_pos h]
set_option maxRecDepth 100000 in
set_option maxHeartbeats 1000000 in
theorem vfixed_any (B p : Nat) (most : Int) (ov : Value) (s : List UInt8 × Int) (v : Value) (ls : List (List UInt8)) (w : World) (hV : Vr w B p most ov s) (hB : B ≤ w.heap.size) (hv : Rdd w v ls) (hfl : flen ls ≤ 70368744177664) (hll : ls.length ≤ 140737488355328) :
    Calls Try.prog 61 #[.pointer (some ⟨p, 0, none⟩), v] w (PutV B p most ov (putL most s 0 ls.flatten) w) := by
  have HV := Lib.hid hV
  have HR := Lib.hid hv
  clear hV hv
  go_enter Try.func61, Try.ntmps61
  go_wp2_with fail
  refine (rjoin_any v ls w HR.out (by omega) hll).mono ?_
  rintro r w1 ⟨x, rfl, ho, k⟩
  have HO := Lib.hid ho
  clear ho
  go_wp2_with fail
  refine (vfield_any B p most ov s x ls.flatten 0 w1 (HV.out.kp0 k) (Nat.le_trans hB k.size) HO.out.rd (show flen ls ≤ _ by omega)).mono ?_
  intro r w' h
  obtain ⟨ov', rfl, h1, h2, h3⟩ := PutV.later k h
  go_wp2_with fail
  go_end0
  exact ⟨ov', rfl, h1, h2, h3⟩
end Go.Proofs.Ytkceaepbjdfccaa
