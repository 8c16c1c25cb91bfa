/-
What a writer's put comes to.
-/
import Derived.Test.YtkceaepbjdfccaaWire6
import Derived.Test.YtkceaepbjdfccaaApp
namespace Go.Proofs.Ytkceaepbjdfccaa
open Go.RowKit
theorem bv_oneCell (l : List UInt8) : ∀ u ∈ bv l, u.oneCell' = true := by
  intro u hu
  obtain ⟨_, _, rfl⟩ := List.mem_map.1 hu
  rfl
theorem setCell_fields3 {w : World} {p : Nat} {a b c u : Value} {T : TypeId} (hp : w.heap[p]? = some (.cells #[a, b, c] T (0, 0))) :
    (w.setCell ⟨p, 1, none⟩ u).heap[p]? = some (.cells #[a, u, c] T (0, 0)) ∧ (w.setCell ⟨p, 2, none⟩ u).heap[p]? = some (.cells #[a, b, u] T (0, 0)) :=
  ⟨heap_setCell_same w p 1 _ T u hp, heap_setCell_same w p 2 _ T u hp⟩

theorem putL_fault (most : Int) (l : List UInt8) (f e : Int) (x : List UInt8) (h : f ≠ 0) : putL most (l, f) e x = (l, f) := by unfold putL; rw [if_pos h]
theorem putL_err (most : Int) (l : List UInt8) (e : Int) (x : List UInt8) (h : e ≠ 0) : putL most (l, 0) e x = (l, e) := by unfold putL; rw [if_neg (by simp), if_pos h]
theorem putL_long (most : Int) (l x : List UInt8) (h : most - l.length < x.length) : putL most (l, 0) 0 x = (l, 5) := by unfold putL; rw [if_neg (by simp), if_neg (by simp), if_pos h]
theorem putL_ok (most : Int) (l x : List UInt8) (h : ¬ most - l.length < x.length) : putL most (l, 0) 0 x = (l ++ x, 0) := by unfold putL; rw [if_neg (by simp), if_neg (by simp), if_neg h]
theorem Wr.fault {w : World} {B p : Nat} {most : Int} {ov : Value} {l : List UInt8} (h : Wr w B p most ov (l, 0)) (n : Nat) (e : Int) : Wr ((w.drewN n).setCell ⟨p, 2, none⟩ (.int .i64 e)) B p most ov (l, e) := by
  refine ⟨heap_setCell_same (w.drewN n) p 2 _ _ _ h.hp, h.own.kp (((Kp.refl [p] w).drewN n).setCell (p := ⟨p, 2, none⟩) (.inl (List.mem_singleton.2 rfl)) _) (fun b hb => ?_), h.le, h.hl, h.hm⟩
  rw [List.mem_singleton]
  intro e
  subst e
  exact h.ne (mem_ob.2 hb)
/-- a list of parts that no write to these blocks turns -/
def Parts (L : List Nat) (w : World) (v : Value) (ls : List (List UInt8)) : Prop := ∀ w', Kp L w w' → Rdd w' v ls

set_option maxRecDepth 100000 in
set_option maxHeartbeats 2000000 in
theorem put_any (B p : Nat) (most : Int) (ov : Value) (s : List UInt8 × Int) (e : Int) (v : Value) (ls : List (List UInt8)) (w : World)
    (hW : Wr w B p most ov s) (hB : B ≤ w.heap.size) (hv : Parts (p :: ob ov) w v ls) (hfl : flen ls ≤ 140737488355328) (hll : ls.length ≤ 140737488355328) :
    Calls Try.prog 53 #[.pointer (some ⟨p, 0, none⟩), .int .i64 e, v] w fun r w' =>
      ∃ ov', r = .returned (.tuple #[]) ∧ Wr w' B p most ov' (putL most s e ls.flatten) ∧ Kp (p :: ob ov) w w' ∧ ∀ b ∈ ob ov', b ∈ ob ov ∨ w.heap.size ≤ b := by
  obtain ⟨ao, cap, rfl⟩ := (hv w (Kp.refl _ _)).form
  obtain ⟨l, f⟩ := s
  have hc0 : w.cell? ⟨p, 0, none⟩ = some (.int .i64 most) := by rw [cell_of_row w p 0 _ _ _ hW.hp]; rfl
  have hc1 : w.cell? ⟨p, 1, none⟩ = some ov := by rw [cell_of_row w p 1 _ _ _ hW.hp]; rfl
  have hc2 : w.cell? ⟨p, 2, none⟩ = some (.int .i64 f) := by rw [cell_of_row w p 2 _ _ _ hW.hp]; rfl
  by_cases hf : f = 0
  · subst hf
    obtain ⟨oa, oc, hov⟩ := hW.own.rd.form
    rw [bv_length] at hov
    simp only at hov
    subst hov
    have hfz1 : w.frozen? ⟨p, 1, none⟩ = false := frozen_of_row w p 1 _ _ hW.hp
    have hfz2 : w.frozen? ⟨p, 2, none⟩ = false := frozen_of_row w p 2 _ _ hW.hp
    have HWr := Lib.hid hW
    have HV := Lib.hid hv
    have hlm : (l.length : Int) ≤ most := hW.hl
    have hmm : most ≤ 1048576 := hW.hm
    clear hW hv
    go_enter Try.func53, Try.ntmps53
    go_wp2_with fail
    go_loop [6, 18] (fun n i => ∃ k : Nat, k ≤ ls.length ∧ i = .int .i64 k ∧ n = .int .i64 (flen (ls.take k) : Nat)) (fun _ i => ls.length - (intOf i).toNat)
    case atStart => exact ⟨0, Nat.zero_le _, rfl, rfl⟩
    case round =>
      obtain ⟨k, hk, rfl, rfl⟩ := hrel
      by_cases hlt : k < ls.length
      · obtain ⟨b, off, hao, ao', cap', hc, hr⟩ := (HV.out w (Kp.refl _ _)).at hlt
        subst hao
        have hle := flat_le ls (k + 1)
        have hle0 := flat_le ls k
        have hsum := flen_take ls k hlt
        have HSUM := Lib.hid hsum
        rw [hsum] at hle
        clear hsum hr
        generalize hL : flen (ls.take k) = L at *
        generalize hM : ls[k].length = M at *
        clear hL hM
        go_wp2_with fail
        go_round
        case rel => exact ⟨k + 1, by omega, by go_num, by rw [HSUM.out]; go_num⟩
        case measure => simp [intOf]; omega
      · have hkl : k = ls.length := by omega
        subst hkl
        rw [List.take_length]
        have hfin : flen ls = ls.flatten.length := rfl
        have HFIN := Lib.hid hfin
        clear hfin
        by_cases he : e = 0
        · subst he
          by_cases hroom : most - (l.length : Int) < (flen ls : Int)
          · have hP : putL most (l, 0) 0 ls.flatten = (l, 5) := putL_long _ _ _ hroom
            have HP := Lib.hid hP
            have hd : decide (most - (l.length : Int) < (flen ls : Int)) = true := by simpa using hroom
            clear hP
            go_wp2_with fail
            go_quiet (fail)
            go_wp2_with fail
            refine bodyPost_ret (results_none rfl _ _ _) rfl ?_
            have h2 := HWr.out.fault nq 5
            refine ⟨_, rfl, ?_, ((Kp.refl _ w).drewN nq).setCell (.inl (by simp)) _, fun b hb => .inl hb⟩
            rw [HP.out]; exact h2
          · have hd : decide (most - (l.length : Int) < (flen ls : Int)) = false := by simpa using hroom
            have hP : putL most (l, 0) 0 ls.flatten = (l ++ ls.flatten, 0) := putL_ok _ _ _ hroom
            have HP := Lib.hid hP
            clear hP
            go_wp2_with fail
            go_quiet (fail)
            go_wp2_with fail
            clear hc0 hc1 hc2 hfz1 hfz2 hd
            go_loopw [51] (fun i wr => ∃ (k : Nat) (ok : Value), k ≤ ls.length ∧ i = .int .i64 k ∧ Hid (Wr wr B p most ok (l ++ (ls.take k).flatten, 0) ∧ Kp (p :: ob (.slice oa l.length oc)) w wr ∧ ∀ b ∈ ob ok, b ∈ ob (.slice oa l.length oc) ∨ w.heap.size ≤ b)) (fun i _ => ls.length - (intOf i).toNat)
            case atStart => exact ⟨0, .slice oa l.length oc, Nat.zero_le _, rfl, Lib.hid ⟨by simpa using HWr.out.kp0 ((Kp.refl [] w).drewN nq), (Kp.refl _ w).drewN nq, fun b hb => .inl hb⟩⟩
            case round =>
              obtain ⟨k, ok, hk, rfl, HR⟩ := hrel
              by_cases hlt : k < ls.length
              · have hW := HR.out.1
                obtain ⟨b, off, hao, ao', cap', hc, hr⟩ := (HV.out wr HR.out.2.1).at hlt
                subst hao
                have hc1 : wr.cell? ⟨p, 1, none⟩ = some ok := by rw [cell_of_row wr p 1 _ _ _ hW.hp]; rfl
                have HRD := Lib.hid hr
                have hle := flat_le ls (k + 1)
                have hsum := flen_take ls k hlt
                have hlen : (l ++ (ls.take k).flatten).length = l.length + flen (ls.take k) := by rw [List.length_append]; rfl
                have HN : Hid (((l ++ (ls.take k).flatten).length : Int) + ls[k].length ≤ most) := Lib.hid (by rw [hlen]; omega)
                have HBr : Hid (B ≤ wr.heap.size) := Lib.hid (by have := HR.out.2.1.size; omega)
                clear hr hW hle hsum hlen
                go_wp2_with (first
                  | (at_builtin; go_must (refine wpl_append2 el_u8 rfl _ _ rfl rfl rfl (show Own wr B _ ok (bv (l ++ (ls.take k).flatten)) from HR.out.1.own) HRD.out (bv_oneCell _) (by rw [bv_length, bv_length]; have := HN.out; omega) (by rw [bv_length, bv_length]; have := HN.out; omega) HBr.out ?_); intro v2 w2 ho2 hg2 hwh; obtain ⟨a2, cc2, rfl⟩ := ho2.rd.form; generalize (bv (l ++ (List.take k ls).flatten) ++ bv ls[k]).length = n2 at ho2 hwh ⊢; have HO2 := Lib.hid ho2; have HG2 := Lib.hid hg2; have HWH := Lib.hid hwh; clear ho2 hg2 hwh; have hp2 : w2.heap[p]? = some (.cells #[.int .i64 most, ok, .int .i64 0] 107 (0, 0)) := (by rw [HG2.out.block p ((Array.getElem?_eq_some_iff.1 HR.out.1.hp).1) (fun e => HR.out.1.ne (mem_ob.2 e.symm))]; exact HR.out.1.hp); have hc2 : w2.cell? ⟨p, 1, none⟩ = some ok := (by rw [cell_of_row w2 p 1 _ _ _ hp2]; rfl); have hf2 : w2.frozen? ⟨p, 1, none⟩ = false := frozen_of_row w2 p 1 _ _ hp2; have HP2 := Lib.hid hp2; clear hp2)
                  | fail)
                go_roundw
                case rel =>
                  have hw2 : Kp (p :: ob (.slice oa l.length oc)) w w2 := HR.out.2.1.grown HG2.out (fun b hb => by
                    rcases HR.out.2.2 b (mem_ob.2 hb) with h | h
                    · exact .inl (List.mem_cons_of_mem _ h)
                    · exact .inr h)
                  refine ⟨k + 1, .slice a2 n2 cc2, by omega, by go_num, Lib.hid ⟨⟨heap_setCell_same w2 p 1 _ _ _ HP2.out, ?_, HWr.out.le, ?_, hmm⟩, hw2.setCell (.inl (by simp)) _, fun b hb => ?_⟩⟩
                  · have h := HO2.out
                    rw [← bv_append, List.append_assoc, ← flat_take ls k hlt] at h
                    refine h.kp ((Kp.refl [p] w2).setCell (p := ⟨p, 1, none⟩) (.inl (List.mem_singleton.2 rfl)) _) (fun b hb => ?_)
                    rw [List.mem_singleton]
                    intro e
                    subst e
                    exact h.not_at HP2.out (by decide) hb
                  · have := HN.out
                    rw [flat_take ls k hlt, ← List.append_assoc, List.length_append]; omega
                  · rcases HWH.out b (mem_ob.1 hb) with h | h
                    · exact HR.out.2.2 b (mem_ob.2 h)
                    · exact .inr (Nat.le_trans HR.out.2.1.size h)
                case measure => simp [intOf]; omega
              · have hkl : k = ls.length := by omega
                subst hkl
                have HR2 := HR.out
                rw [List.take_length] at HR2
                have HR3 := Lib.hid HR2
                clear HR HR2
                go_wp2_with fail
                go_end0
                exact ⟨ok, rfl, by rw [HP.out]; exact HR3.out.1, HR3.out.2.1, HR3.out.2.2⟩
        · have heb : (e == 0) = false := by simpa using he
          have heb2 : (e != 0) = true := by simpa using he
          have hP : putL most (l, 0) e ls.flatten = (l, e) := putL_err _ _ _ _ he
          have HP := Lib.hid hP
          clear hP
          go_wp2_with fail
          go_quiet (fail)
          go_wp2_with fail
          refine bodyPost_ret (results_none rfl _ _ _) rfl ?_
          have h2 := HWr.out.fault nq e
          refine ⟨_, rfl, ?_, ((Kp.refl _ w).drewN nq).setCell (.inl (by simp)) _, fun b hb => .inl hb⟩
          rw [HP.out]; exact h2
  · have hfb : (f != 0) = true := by simpa using hf
    have hP : putL most (l, f) e ls.flatten = (l, f) := putL_fault _ _ _ _ _ hf
    have HP := Lib.hid hP
    have HWr := Lib.hid hW
    clear hP hW hv
    go_enter Try.func53, Try.ntmps53
    go_wp2_with fail
    refine bodyPost_ret (results_none rfl _ _ _) rfl ?_
    exact ⟨ov, rfl, by rw [HP.out]; exact HWr.out, Kp.refl _ _, fun b hb => .inl hb⟩
end Go.Proofs.Ytkceaepbjdfccaa
