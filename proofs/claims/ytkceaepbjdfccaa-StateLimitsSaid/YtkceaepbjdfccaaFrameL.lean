/-
Limits that came in as data, in this claim's words.
-/
import Derived.Test.YtkceaepbjdfccaaFrameF
import Derived.Test.YtkceaepbjdfccaaLim1
namespace Go.Proofs.Ytkceaepbjdfccaa
open Go.ChangeShapes Go.WideShapes Go.ChangeAt Go.RowKit Go.Deep
set_option maxRecDepth 20000 in
theorem open_lim {H : Type} {enc : TypeId × Value → H} {W : World} {base : Nat} {spare : Nat → Bool} {held : Bool} {r : Reach} {b0 : Nat} {v : Value} {d : DataW H} {p : List MemPlace}
    (hv : Value.okWide Try.prog W r b0 74 v) (h : DataW.Trod enc Try.prog W base spare held 74 v d p) : ∃ l : Lim, v = l.v ∧ 0 ≤ l.counter ∧ l.counter < 4294967296 := by
  obtain ⟨cs, rfl, hsz⟩ := okWide_struct Try.underlying74 hv
  obtain ⟨l⟩ := cs
  obtain ⟨fuel, hf⟩ := h
  obtain ⟨xs, n, _, _, _, hlen, hg⟩ := DataW.trod_struct Try.underlying74 hf
  match l, hsz.trans (show Try.prog.cellsOf 74 = 6 from by kernel_rfl) with
  | [c0, c1, c2, c3, c4, c5], _ =>
  match xs, hlen with
  | [y0, y1, y2, y3, y4, y5], _ =>
  have f0 := hg 0 _ rfl
  have f1 := hg 1 _ rfl
  have f2 := hg 2 _ rfl
  have f3 := hg 3 _ rfl
  have f4 := hg 4 _ rfl
  have f5 := hg 5 _ rfl
  simp [Value.cells, show Try.prog.cellsOf 3 = 1 from by kernel_rfl] at f0
  simp [Value.cells, show Try.prog.cellsOf 3 = 1 from by kernel_rfl] at f1
  simp [Value.cells, show Try.prog.cellsOf 3 = 1 from by kernel_rfl] at f2
  simp [Value.cells, show Try.prog.cellsOf 3 = 1 from by kernel_rfl] at f3
  simp [Value.cells, show Try.prog.cellsOf 3 = 1 from by kernel_rfl] at f4
  simp [Value.cells, show Try.prog.cellsOf 40 = 1 from by kernel_rfl] at f5
  obtain ⟨k0, e0, _, _⟩ := DataW.trod_int Try.underlying3 f0
  obtain ⟨k1, e1, _, _⟩ := DataW.trod_int Try.underlying3 f1
  obtain ⟨k2, e2, _, _⟩ := DataW.trod_int Try.underlying3 f2
  obtain ⟨k3, e3, _, _⟩ := DataW.trod_int Try.underlying3 f3
  obtain ⟨k4, e4, _, _⟩ := DataW.trod_int Try.underlying3 f4
  obtain ⟨k5, e5, _, w5⟩ := DataW.trod_int Try.underlying40 f5
  simp only [List.cons.injEq, and_true] at e0 e1 e2 e3 e4 e5
  subst e0 e1 e2 e3 e4 e5
  have hb := bounds_u32 w5
  exact ⟨⟨k0, k1, k2, k3, k4, k5⟩, rfl, hb.1, by show k5 < _; omega⟩
end Go.Proofs.Ytkceaepbjdfccaa
