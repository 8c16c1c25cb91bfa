/-
The law's own words: Room, Kept, Spoil.
-/
import Derived.Test.YtkceaepbjdfccaaWx8
namespace Go.Proofs.Ytkceaepbjdfccaa
open Go.RowKit
def marks : List UInt8 := [0xd1, 0xd2, 0xd3]
theorem bv_marks : bv marks = [.int .u8 209, .int .u8 210, .int .u8 211] := rfl
set_option maxRecDepth 100000 in
set_option maxHeartbeats 400000 in
theorem room_any (v : Value) (l : List UInt8) (w : World) (hv : Rd w v (bv l)) (hl : l.length ≤ 140737487306752) :
    Calls Try.prog 58 #[v] w fun e w' => ∃ g c, e = .returned (.slice (some ⟨g, 0, none⟩) (l.length + 3) c) ∧ Own w' w.heap.size 5 (.slice (some ⟨g, 0, none⟩) (l.length + 3) c) (bv (l ++ marks)) ∧ Kp [] w w' := by
  obtain ⟨ao, ac, rfl⟩ := hv.form
  rw [bv_length] at hv ⊢
  have HR := Lib.hid hv
  clear hv
  go_enter Try.func58, Try.ntmps58
  go_wp2_with (first
    | (at_builtin; (refine wpl_append2 el_u8 rfl (.const (.slice none 0 0)) (.tmp 3) rfl (B := w.heap.size) rfl rfl (Own.nil _ _ _) HR.out (bv_oneCell _) (by rw [bv_length]; simp; omega) (by rw [bv_length]; simp; omega) (Nat.le_refl _) ?_); intro v2 w2 ho2 hg2 hwh; have k2 : Kp [] w w2 := (Kp.refl [] w).grown hg2 (fun g hg => by cases hg); have HO2 := Lib.hid ho2; clear ho2 hg2 hwh; obtain ⟨oa2, oc2, rfl⟩ := HO2.out.rd.form; generalize hn2 : ([] ++ bv l).length = n2 at *; have HN2 := Lib.hid hn2; clear hn2)
    | (at_builtin; (refine wpl_append2 el_u8 rfl (.tmp 4) (.tmp 5) rfl (B := w.heap.size) rfl rfl (HO2.out.kp0 ((Kp.refl [] w2).alloc _)) (rd_lit3 _ _ _ _ _) (by simp [Value.oneCell']) (by simp [bv_length]; omega) (by simp [bv_length]; omega) (by have := k2.size; simp; omega) ?_); intro v3 w3 ho3 hg3 hwh; have k3 : Kp [] w w3 := (k2.alloc _).grown hg3 (fun g hg => .inr (HO2.out.lt hg).1); have HO3 := Lib.hid ho3; clear ho3 hg3 hwh)
    | fail)
  have ho := HO3.out
  rw [List.nil_append, ← bv_marks, ← bv_append] at ho
  have HO4 := Lib.hid ho
  have hf := ho.2
  rcases hf with ⟨_, h0⟩ | ⟨g, cap, cur, rfl, hb, hg, hn, hm, hs, ht⟩
  · rw [bv_length, List.length_append] at h0; simp [marks] at h0
  clear ho
  rw [bv_length, List.length_append, show marks.length = 3 from rfl] at HO4 ⊢
  go_wp2_with fail
  go_ret
  exact ⟨g, cap, rfl, HO4.out, k3⟩
set_option maxRecDepth 100000 in
set_option maxHeartbeats 400000 in
theorem kept_any (x v : Value) (xs l : List UInt8) (w : World) (hx : Rd w x (bv xs)) (hv : Rd w v (bv l)) (hl : l.length ≤ 140737487306752) :
    Calls Try.prog 65 #[x, v] w fun e w' => e = .returned (.bool (decide (xs = l ++ marks))) ∧ Kp [] w w' := by
  obtain ⟨ao, ac, rfl⟩ := hv.form
  obtain ⟨bo, bc, rfl⟩ := hx.form
  rw [bv_length] at hv hx ⊢
  rw [bv_length]
  have HR := Lib.hid hv
  have HX := Lib.hid hx
  clear hv hx
  go_enter Try.func65, Try.ntmps65
  go_wp2_with fail
  refine (room_any _ l w HR.out hl).mono ?_
  rintro e w1 ⟨g, c, rfl, ho, k⟩
  have HO := Lib.hid ho
  clear ho
  go_wp2_with fail
  refine (eq_any _ _ xs (l ++ marks) w1 (HX.out.kp0 k) HO.out.rd).mono ?_
  rintro e w2 ⟨rfl, rfl⟩
  go_wp2_with fail
  go_ret
  exact ⟨rfl, k⟩
set_option maxRecDepth 100000 in
set_option maxHeartbeats 1000000 in
theorem spoil_any (g n cap : Nat) (cur : Array Value) (T : TypeId) (w : World) (hg : w.heap[g]? = some (.cells cur T (0, 0))) (hn : n ≤ cur.size) (hm : n ≤ 140737488355328) :
    Calls Try.prog 66 #[.slice (some ⟨g, 0, none⟩) n cap] w fun e w' => e = .returned (.tuple #[]) ∧ Kp [g] w w' := by
  go_enter Try.func66, Try.ntmps66
  go_wp2_with fail
  go_loopw [2] (fun i wr => ∃ k : Nat, k ≤ n ∧ i = .int .i64 k ∧ (∃ cu : Array Value, cu.size = cur.size ∧ wr.heap[g]? = some (.cells cu T (0, 0))) ∧ Kp [g] w wr) (fun i _ => n - (intOf i).toNat)
  case atStart => exact ⟨0, Nat.zero_le _, rfl, ⟨cur, rfl, hg⟩, Kp.refl _ _⟩
  case round =>
    obtain ⟨k, hk, rfl, ⟨cu, hcu, hh⟩, hb⟩ := hrel
    clear hg
    by_cases hlt : k < n
    · have hc : ∃ u, wr.cell? ⟨g, k, none⟩ = some u := by
        rw [cell_of_row wr g k _ _ _ hh]
        exact ⟨_, Array.getElem?_eq_getElem (by omega)⟩
      obtain ⟨u, hcu2⟩ := hc
      have hfz := frozen_of_row wr g k _ _ hh
      have hnew := heap_setCell_same wr g k _ T (.int .u8 85) hh
      have HB := hb.setCell (p := ⟨g, k, none⟩) (.inl (by simp)) (.int .u8 85)
      have HN := Lib.hid hnew
      clear hnew hh
      go_wp2_with fail
      go_roundw
      case rel => exact ⟨k + 1, by omega, by go_num, ⟨_, by simpa using hcu, HN.out⟩, HB⟩
      case measure => simp [intOf]; omega
    · have hkl : k = n := by omega
      subst hkl
      go_wp2_with fail
      go_end0
      exact ⟨rfl, hb⟩
end Go.Proofs.Ytkceaepbjdfccaa
