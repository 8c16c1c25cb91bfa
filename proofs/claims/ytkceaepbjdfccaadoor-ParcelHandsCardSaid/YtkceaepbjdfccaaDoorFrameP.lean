/-
A slice of int that came in as data, in this claim's words.
-/
import Derived.Test.YtkceaepbjdfccaaDoorFrameK
import Derived.Test.YtkceaepbjdfccaaDoorPar19
namespace Go.Proofs.YtkceaepbjdfccaaDoor
open Go.ChangeShapes Go.WideShapes Go.ChangeAt Go.RowKit
set_option maxRecDepth 20000 in
/-- a slice of int in one cell -/
theorem open_ints {H : Type} {enc : TypeId × Value → H} {W : World} {base : Nat} {spare : Nat → Bool} {held : Bool} {fuel : Nat} {v : Value} {y : DataW H × List MemPlace}
    (h : DataW.trod enc Tryd.prog W base spare held fuel 42 [v] = some y) (hw : ∀ n ∈ y.1.weights Tryd.prog 42, n ≤ reachBytes) :
    ∃ ao cap gs, v = .slice ao (List.length gs) cap ∧ Rd W (.slice ao (List.length gs) cap) (zv gs) ∧ (gs.length ≤ 140737488351232 ∧ ∀ x ∈ gs, -9223372036854775808 ≤ x ∧ x ≤ 9223372036854775807) := by
  rcases ChangeShapes.open_ints Tryd.underlying42 Tryd.underlying3 (by kernel_rfl) h with ⟨hcs, _⟩ | ⟨x, l, c, zs, hcs, _, hl, hm, hz, hx, hcell, hwz⟩
  · simp at hcs
    subst hcs
    exact ⟨none, 0, [], rfl, Rd.nil W, by simp, by simp⟩
  · simp at hcs
    subst hcs hx
    have hq := hw (((lits .i64 (zs.take l)).length + (lits .i64 (zs.drop l)).length) * Tryd.prog.bytesOf 3) (by simp only [DataW.weights, Tryd.underlying42]; exact List.mem_cons.2 (.inl rfl))
    rw [show Tryd.prog.bytesOf 3 = 8 from by kernel_rfl] at hq
    simp only [lits, List.length_map, List.length_take, List.length_drop, reachBytes] at hq
    have hz' : l ≤ zs.length := by rw [hz]; split <;> omega
    have hlen : (zs.take l).length = l := by simp; omega
    have hivl : (zv (zs.take l)).length = l := by simp [zv]; omega
    refine ⟨some x, c, zs.take l, by rw [hlen], ?_, by omega, fun y hy => bounds_i64 (hwz y (List.mem_of_mem_take hy))⟩
    refine ⟨some x, c, by rw [hivl, hlen], by rw [hivl]; exact hl, (fun h => by cases h), fun b hb => ?_⟩
    cases hb
    intro i u hu
    have hi : i < l := by rw [← hivl]; exact (List.getElem?_eq_some_iff.1 hu).1
    have hiz : i < zs.length := by omega
    rw [hcell i hiz]
    unfold zv at hu
    simp only [List.getElem?_map, List.getElem?_take, if_pos hi, List.getElem?_eq_getElem hiz, Option.map_some, Option.some.injEq] at hu
    rw [← hu]
    simp [List.getD, List.getElem?_eq_getElem hiz]
end Go.Proofs.YtkceaepbjdfccaaDoor
