/-
parcel.Split.
-/
import Derived.Test.YtkceaepbjdfccaaDoorPar1
namespace Go.Proofs.YtkceaepbjdfccaaDoor
open Go.RowKit
/-- how many parts -/
def cntP (n : Nat) : Nat := max 1 ((n + 496) / 497)
/-- the content of part i -/
def contP (l : List UInt8) (i : Nat) : List UInt8 := (l.drop (497 * i)).take 497
/-- part i -/
def partP (kk bg : List Int) (id : Int) (l : List UInt8) (i : Nat) : List UInt8 :=
  [lo8 5] ++ be32 id ++ [lo8 (cntP l.length : Int)] ++ [lo8 (i : Int)] ++ (mark kk bg l ++ contP l i)
/-- the parts ahead of part n -/
def partsP (kk bg : List Int) (id : Int) (l : List UInt8) (n : Nat) : List (List UInt8) := (List.range n).map (partP kk bg id l)
theorem cntP_small {n : Nat} (h : n ≤ 31808) : 1 ≤ cntP n ∧ cntP n ≤ 64 := by unfold cntP; omega
theorem cntP_lt {n i : Nat} (h : i < cntP n) : 497 * i ≤ n ∧ (n = 0 → i = 0) := by unfold cntP at h; omega
theorem contP_len (l : List UInt8) (i : Nat) : (contP l i).length ≤ 497 := by unfold contP; exact List.length_take_le _ _
theorem partP_len (kk bg : List Int) (id : Int) (l : List UInt8) (i : Nat) : (partP kk bg id l i).length = 15 + (contP l i).length := by
  unfold partP
  simp only [List.length_append, mark_len, be32, List.length_cons, List.length_nil]
  omega
theorem partsP_succ (kk bg : List Int) (id : Int) (l : List UInt8) (n : Nat) : partsP kk bg id l (n + 1) = partsP kk bg id l n ++ [partP kk bg id l n] := by
  unfold partsP; rw [List.range_succ, List.map_append]; rfl
theorem partsP_len (kk bg : List Int) (id : Int) (l : List UInt8) (n : Nat) : (partsP kk bg id l n).length = n := by simp [partsP]
/-- a slice of byte slices, each of its own -/
def Pts (w : World) (B : Nat) (v : Value) (ls : List (List UInt8)) : Prop :=
  ∃ vals : List Value, Own w B 27 v vals ∧ vals.length = ls.length ∧ ∀ (j : Nat) (x : Value) (p : List UInt8), vals[j]? = some x → ls[j]? = some p → Own w B 5 x (bv p) ∧ x.oneCell' = true
theorem Pts.kp {w w' : World} {B : Nat} {v : Value} {ls : List (List UInt8)} (h : Pts w B v ls) (k : Kp [] w w') : Pts w' B v ls := by
  obtain ⟨vals, h1, h2, h3⟩ := h
  exact ⟨vals, h1.kp0 k, h2, fun j x p hx hp => ⟨(h3 j x p hx hp).1.kp0 k, (h3 j x p hx hp).2⟩⟩
theorem Pts.nil (w : World) (B : Nat) : Pts w B (.slice none 0 0) [] := ⟨[], Own.nil _ _ _, rfl, fun j x p hx => by simp at hx⟩
/-- one more behind -/
theorem Pts.app {w1 w5 : World} {B : Nat} {v v2 x : Value} {ls : List (List UInt8)} {p : List UInt8} {ob' : Obj} {vals : List Value} (h1 : Own w1 B 27 v vals) (h2 : vals.length = ls.length)
    (h3 : ∀ (j : Nat) (x : Value) (p : List UInt8), vals[j]? = some x → ls[j]? = some p → Own w1 B 5 x (bv p) ∧ x.oneCell' = true) (hx : Own w1 B 5 x (bv p)) (hx1 : x.oneCell' = true)
    (g1 : Own w5 B 27 v2 (vals ++ [x])) (g2 : (w1.alloc ob').grownBy w5 v.ownBlock) : Pts w5 B v2 (ls ++ [p]) ∧ Kp v.ownBlock.toList w1 w5 := by
  have k0 : Kp [] w1 (w1.alloc ob') := (Kp.refl _ _).alloc _
  have k1 : Kp v.ownBlock.toList (w1.alloc ob') w5 := Kp.of_grown g2 (fun k hk => .inl (by rw [hk]; simp))
  have k2 : Kp v.ownBlock.toList w1 w5 := (k0.mono (by simp)).trans k1 (fun m hm => .inl hm)
  have hne : ∀ (y : Value) (q : List UInt8), Own w1 B 5 y (bv q) → Own w5 B 5 y (bv q) := fun y q hy => hy.kp k2 (fun b hb hm => by
    rw [Option.mem_toList] at hm
    obtain ⟨cur, hc⟩ := h1.block hm
    exact hy.not_at hc (by decide) hb)
  refine ⟨⟨vals ++ [x], g1, by rw [List.length_append, List.length_append, h2]; rfl, fun j y q hy hq => ?_⟩, k2⟩
  by_cases hj : j < vals.length
  · rw [List.getElem?_append_left hj] at hy
    rw [List.getElem?_append_left (by omega)] at hq
    exact ⟨hne y q (h3 j y q hy hq).1, (h3 j y q hy hq).2⟩
  · rw [List.getElem?_append_right (by omega)] at hy
    rw [List.getElem?_append_right (by omega)] at hq
    have hj0 : j - vals.length = 0 := by
      have := (List.getElem?_eq_some_iff.1 hy).1
      simp at this
      omega
    rw [hj0] at hy
    rw [← h2, hj0] at hq
    cases hy; cases hq
    exact ⟨hne _ _ hx, hx1⟩
end Go.Proofs.YtkceaepbjdfccaaDoor
