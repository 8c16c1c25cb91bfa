/-
What read tells of bytes, written out; the parts of a text; Split of a text that is too long.
-/
import Derived.Test.YtkceaepbjdfccaaDoorPar16
namespace Go.Proofs.YtkceaepbjdfccaaDoor
open Go.RowKit
theorem fieldL_in (b : List UInt8) (a n : Nat) (wh : Int) (h : a + n ≤ b.length) : fieldL b ⟨a, wh, 0⟩ 0 (n : Int) = ((b.drop a).take n, ⟨a + n, wh, 0⟩) := by
  unfold fieldL
  rw [if_neg (by simp), if_neg (by omega), if_neg (by simp; omega)]
  simp
theorem readL_short {b : List UInt8} (h : b.length < 15) : readL b = none := by
  refine readL_none1 (.inl fun h5 => ?_)
  obtain ⟨h4, _, l5, e5⟩ := fieldL_ok (show (fieldL b (rs4 b).2 0 8).2.f = 0 from h5)
  obtain ⟨h3, _, _, e4⟩ := fieldL_ok (show (fieldL b (rs3 b).2 0 1).2.f = 0 from h4)
  obtain ⟨h2, _, _, e3⟩ := fieldL_ok (show (fieldL b (rs2 b).2 0 1).2.f = 0 from h3)
  obtain ⟨h1, _, _, e2⟩ := fieldL_ok (show (fieldL b (rs1 b).2 0 4).2.f = 0 from h2)
  obtain ⟨_, _, _, e1⟩ := fieldL_ok (show (fieldL b ⟨0, 0, 0⟩ 0 1).2.f = 0 from h1)
  have a1 : (rs1 b).2.at_ = 1 := by show (fieldL b ⟨0, 0, 0⟩ 0 1).2.at_ = 1; rw [e1]; rfl
  have a2 : (rs2 b).2.at_ = 5 := by show (fieldL b (rs1 b).2 0 4).2.at_ = 5; rw [e2, a1]; rfl
  have a3 : (rs3 b).2.at_ = 6 := by show (fieldL b (rs2 b).2 0 1).2.at_ = 6; rw [e3, a2]; rfl
  have a4 : (rs4 b).2.at_ = 7 := by show (fieldL b (rs3 b).2 0 1).2.at_ = 7; rw [e4, a3]; rfl
  rw [a4] at l5
  omega
theorem rs_long {b : List UInt8} (h : 15 ≤ b.length) : rs1 b = (b.take 1, ⟨1, 0, 0⟩) ∧ rs2 b = ((b.drop 1).take 4, ⟨5, 0, 0⟩) ∧ rs3 b = ((b.drop 5).take 1, ⟨6, 0, 0⟩) ∧ rs4 b = ((b.drop 6).take 1, ⟨7, 0, 0⟩) ∧ rs5 b = ((b.drop 7).take 8, ⟨15, 0, 0⟩) ∧ (rs6 b).1 = b.drop 15 := by
  have e1 : rs1 b = (b.take 1, ⟨1, 0, 0⟩) := fieldL_in b 0 1 0 (by omega)
  have e2 : rs2 b = ((b.drop 1).take 4, ⟨5, 0, 0⟩) := by unfold rs2; rw [e1]; exact fieldL_in b 1 4 0 (by omega)
  have e3 : rs3 b = ((b.drop 5).take 1, ⟨6, 0, 0⟩) := by unfold rs3; rw [e2]; exact fieldL_in b 5 1 0 (by omega)
  have e4 : rs4 b = ((b.drop 6).take 1, ⟨7, 0, 0⟩) := by unfold rs4; rw [e3]; exact fieldL_in b 6 1 0 (by omega)
  have e5 : rs5 b = ((b.drop 7).take 8, ⟨15, 0, 0⟩) := by unfold rs5; rw [e4]; exact fieldL_in b 7 8 0 (by omega)
  refine ⟨e1, e2, e3, e4, e5, ?_⟩
  unfold rs6
  rw [e5]
  have hn : (b.length : Int) - ((15 : Nat) : Int) = ((b.length - 15 : Nat) : Int) := by omega
  show (fieldL b ⟨15, 0, 0⟩ 0 ((b.length : Int) - ((15 : Nat) : Int))).1 = _
  rw [hn, fieldL_in b 15 (b.length - 15) 0 (by omega)]
  exact List.take_of_length_le (by rw [List.length_drop]; exact Nat.le_refl _)
theorem num8' (n : Int) (h0 : 0 ≤ n) (h1 : n < 256) : numL [lo8 n] = n := by
  unfold numL lo8; simp; omega
theorem num32' (n : Int) (h0 : 0 ≤ n) (h1 : n < 4294967296) : numL (be32 n) = n := by
  unfold numL be32 lo8; simp; omega
/-- part i of a text; mk: what the parts tell of it -/
def partM (mk : List UInt8 → List UInt8) (id : Int) (l : List UInt8) (i : Nat) : List UInt8 :=
  [lo8 5] ++ be32 id ++ [lo8 (cntP l.length : Int)] ++ [lo8 (i : Int)] ++ (mk l ++ contP l i)
def partsM (mk : List UInt8 → List UInt8) (id : Int) (l : List UInt8) : List (List UInt8) := (List.range (cntP l.length)).map (partM mk id l)
theorem partsM_len (mk : List UInt8 → List UInt8) (id : Int) (l : List UInt8) : (partsM mk id l).length = cntP l.length := by simp [partsM]
theorem partsM_get {mk : List UInt8 → List UInt8} {id : Int} {l : List UInt8} {i : Nat} (h : i < cntP l.length) : (partsM mk id l)[i]? = some (partM mk id l i) := by
  unfold partsM
  rw [List.getElem?_map, List.getElem?_range h]
  rfl
theorem contP_length (l : List UInt8) (i : Nat) : (contP l i).length = min 497 (l.length - 497 * i) := by unfold contP; rw [List.length_take, List.length_drop]
theorem partM_len {mk : List UInt8 → List UInt8} (hm : ∀ l, (mk l).length = 8) (id : Int) (l : List UInt8) (i : Nat) : (partM mk id l i).length = 15 + (contP l i).length := by
  unfold partM
  simp only [List.length_append, hm, be32, List.length_cons, List.length_nil]
  omega
theorem partM_drop {mk : List UInt8 → List UInt8} (hm : ∀ l, (mk l).length = 8) (id : Int) (l : List UInt8) (i : Nat) : (partM mk id l i).drop 15 = contP l i ∧ ((partM mk id l i).drop 7).take 8 = mk l := by
  have h8 := hm l
  refine ⟨?_, ?_⟩
  · show ((mk l ++ contP l i)).drop 8 = contP l i
    rw [List.drop_append_of_le_length (by omega), List.drop_of_length_le (by omega)]
    rfl
  · show ((mk l ++ contP l i)).take 8 = mk l
    rw [List.take_append_of_le_length (by omega), List.take_of_length_le (by omega)]
/-- a part is read as it was made -/
theorem readL_part {mk : List UInt8 → List UInt8} (hm : ∀ l, (mk l).length = 8) {id : Int} (h0 : 0 ≤ id) (h1 : id < 4294967296) {l : List UInt8} (hl : l.length ≤ 31808) {i : Nat} (hi : i < cntP l.length) :
    readL (partM mk id l i) = some ⟨id, (cntP l.length : Int), (i : Int), mk l, contP l i⟩ := by
  have hlen := partM_len hm id l i
  have hcs := cntP_small hl
  have hc := contP_length l i
  obtain ⟨e1, e2, e3, e4, e5, e6⟩ := rs_long (b := partM mk id l i) (by omega)
  obtain ⟨d1, d2⟩ := partM_drop hm id l i
  have n1 : numL (rs1 (partM mk id l i)).1 = 5 := by rw [e1]; exact num8' 5 (by decide) (by decide)
  have n2 : numL (rs2 (partM mk id l i)).1 = id := by rw [e2]; exact num32' id h0 h1
  have n3 : numL (rs3 (partM mk id l i)).1 = (cntP l.length : Int) := by rw [e3]; exact num8' _ (by omega) (by omega)
  have n4 : numL (rs4 (partM mk id l i)).1 = (i : Int) := by rw [e4]; exact num8' _ (by omega) (by omega)
  have n5 : (rs5 (partM mk id l i)).1 = mk l := by rw [e5]; exact d2
  have n6 : (rs6 (partM mk id l i)).1 = contP l i := by rw [e6]; exact d1
  have hcc : cntP l.length = max 1 ((l.length + 496) / 497) := rfl
  rw [readL_some (by rw [e5]) n1 (by rw [n3]; omega) (by rw [n3]; omega) (by rw [n3, n4]; omega) (by rw [n6]; omega) (fun hh => by rw [n3, n4] at hh; rw [n6]; omega) (fun hh => by rw [n6] at hh; rw [n3]; omega)]
  unfold prtOf
  rw [n2, n3, n4, n5, n6]
theorem split_long (id : Int) (v : Value) (l : List UInt8) (w : World) (hv : Rd w v (bv l)) (hl : 31808 < l.length) :
    Calls Tryd.prog 23 #[.int .u32 id, v] w fun e w' => e = .returned (.tuple #[.slice none 0 0, .int .i64 5]) ∧ w = w' := by
  obtain ⟨a, c, rfl⟩ := hv.form
  rw [bv_length]
  have hlI : (31808 : Int) < (l.length : Int) := by omega
  clear hv hl
  go_enter Tryd.func23, Tryd.ntmps23
  go_wp2_with fail
  go_ret2
  exact ⟨rfl, rfl⟩
end Go.Proofs.YtkceaepbjdfccaaDoor
