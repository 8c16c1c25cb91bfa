/-
A state that came in as data, in this claim's words.
-/
import Derived.Test.YtkceaepbjdfccaaFrame
import Derived.Test.YtkceaepbjdfccaaSt2
import Derived.Deep.Slices
import Derived.Deep.Fields
import Derived.ChangeSame
namespace Go.Proofs.Ytkceaepbjdfccaa
open Go.ChangeShapes Go.WideShapes Go.ChangeAt Go.RowKit Go.Deep
section
variable {H : Type} {enc : TypeId × Value → H} {W : World} {base : Nat} {spare : Nat → Bool} {held : Bool}
set_option maxRecDepth 100000 in
/-- an array of bytes in cells -/
theorem open_arr_cells {fuel n : Nat} {t : TypeId} {cs : List Value} {y : DataW H × List MemPlace}
    (ht : Try.prog.underlying t = some (.array n 5)) (hct : Try.prog.cellsOf t = n) (hce : Try.prog.cellsOf 5 = 1)
    (h : DataW.trod enc Try.prog W base spare held fuel t cs = some y) : ∃ key : List Int, key.length = n ∧ cs = iv key ∧ ∀ x ∈ key, B8 x := by
  obtain ⟨xs, m, _, _, hcl, hxl, hel⟩ := DataW.trod_array ht h
  rw [hct] at hcl
  have per : ∀ i, i < n → ∃ z : Int, cs[i]? = some (.int .u8 z) ∧ B8 z := by
    intro i hi
    have h1 := hel i hi
    rw [hce, List.getElem?_eq_getElem (by omega)] at h1
    obtain ⟨k, e0, _, wk⟩ := DataW.trod_int Try.underlying5 h1
    have hb := bounds_u8 wk
    refine ⟨k, ?_, hb.1, by omega⟩
    have e1 := congrArg (fun l => l[0]?) e0
    simp only [List.getElem?_cons_zero, List.getElem?_take, List.getElem?_drop, Nat.add_zero, Nat.mul_one] at e1
    rw [if_pos (by omega)] at e1
    exact e1
  let f : Value → Int := fun v => match v with | .int _ z => z | _ => 0
  refine ⟨cs.map f, by simp; exact hcl, ?_, ?_⟩
  · apply List.ext_getElem?
    intro i
    by_cases hi : i < n
    · obtain ⟨z, hz, _⟩ := per i hi
      rw [hz, iv, List.getElem?_map, List.getElem?_map, hz]
      rfl
    · rw [List.getElem?_eq_none (by omega), List.getElem?_eq_none (by rw [iv_length]; simp; omega)]
  · intro x hx
    obtain ⟨v, hv, rfl⟩ := List.mem_map.1 hx
    obtain ⟨i, hi, rfl⟩ := List.mem_iff_getElem.1 hv
    obtain ⟨z, hz, hb⟩ := per i (by omega)
    have : cs[i] = .int .u8 z := by
      rw [List.getElem?_eq_getElem hi] at hz
      exact Option.some.inj hz
    rw [this]
    exact hb
theorem piece (l : List Value) (a b : Nat) : (l.drop a).take b ++ l.drop (a + b) = l.drop a := by rw [← List.drop_drop, List.take_append_drop]
theorem split_state (l : List Value) (h : l.length = 343) : l = (l.drop 0).take 16 ++ ((l.drop 16).take 32 ++ ((l.drop 48).take 64 ++ ((l.drop 112).take 32 ++ ((l.drop 144).take 32 ++ ((l.drop 176).take 32 ++ ((l.drop 208).take 1 ++ ((l.drop 209).take 1 ++ ((l.drop 210).take 1 ++ ((l.drop 211).take 1 ++ ((l.drop 212).take 1 ++ ((l.drop 213).take 1 ++ ((l.drop 214).take 65 ++ (l.drop 279).take 64)))))))))))) := by
  have e : (l.drop 279).take 64 = l.drop 279 := List.take_of_length_le (by simp; omega)
  rw [e, piece l 214 65, piece l 213 1, piece l 212 1, piece l 211 1, piece l 210 1, piece l 209 1, piece l 208 1, piece l 176 32, piece l 144 32, piece l 112 32, piece l 48 64, piece l 16 32, piece l 0 16]
  rfl
theorem split2 (l : List Value) (h : l.length = 64) : l = (l.drop 0).take 32 ++ (l.drop 32).take 32 := by
  have e : (l.drop 32).take 32 = l.drop 32 := List.take_of_length_le (by simp; omega)
  rw [e, piece l 0 32]
  rfl
theorem split3 (l : List Value) (h : l.length = 65) : l = (l.drop 0).take 32 ++ ((l.drop 32).take 32 ++ (l.drop 64).take 1) := by
  have e : (l.drop 64).take 1 = l.drop 64 := List.take_of_length_le (by simp; omega)
  rw [e, piece l 32 32, piece l 0 32]
  rfl
set_option maxRecDepth 100000 in
theorem open_word {fuel : Nat} {cs : List Value} {y : DataW H × List MemPlace} (h : DataW.trod enc Try.prog W base spare held fuel 40 cs = some y) : ∃ z : Int, cs = [wv z] ∧ W32 z := by
  obtain ⟨k, e, _, wk⟩ := DataW.trod_int Try.underlying40 h
  have hb := bounds_u32 wk
  exact ⟨k, e, hb.1, by omega⟩
set_option maxRecDepth 100000 in
set_option maxHeartbeats 1000000 in
theorem open_state {r : Reach} {b0 : Nat} {v : Value} {d : DataW H} {p : List MemPlace}
    (hv : Value.okWide Try.prog W r b0 45 v) (h : DataW.Trod enc Try.prog W base spare held 45 v d p) : ∃ S : St, v = .agg S.cl.toArray ∧ S.ok := by
  obtain ⟨cs, rfl, hsz⟩ := okWide_struct Try.underlying45 hv
  rw [show Try.prog.cellsOf 45 = 343 from by kernel_rfl] at hsz
  obtain ⟨l⟩ := cs
  have hl : l.length = 343 := hsz
  obtain ⟨fuel, hf⟩ := h
  simp only [Value.cells] at hf
  obtain ⟨xs, n, _, _, _, hlen, hg⟩ := DataW.trod_struct Try.underlying45 hf
  match xs, hlen with
  | [y0, y1, y2, y3, y4, y5, y6, y7, y8, y9, y10, y11, y12, y13], _ =>
  have f0 := hg 0 _ rfl
  change DataW.trod enc Try.prog W base spare held n 35 ((l.drop 0).take (Try.prog.cellsOf 35)) = some y0 at f0
  rw [show Try.prog.cellsOf 35 = 16 from by kernel_rfl] at f0
  have f1 := hg 1 _ rfl
  change DataW.trod enc Try.prog W base spare held n 37 ((l.drop 16).take (Try.prog.cellsOf 37)) = some y1 at f1
  rw [show Try.prog.cellsOf 37 = 32 from by kernel_rfl] at f1
  have f2 := hg 2 _ rfl
  change DataW.trod enc Try.prog W base spare held n 39 ((l.drop 48).take (Try.prog.cellsOf 39)) = some y2 at f2
  rw [show Try.prog.cellsOf 39 = 64 from by kernel_rfl] at f2
  have f3 := hg 3 _ rfl
  change DataW.trod enc Try.prog W base spare held n 37 ((l.drop 112).take (Try.prog.cellsOf 37)) = some y3 at f3
  rw [show Try.prog.cellsOf 37 = 32 from by kernel_rfl] at f3
  have f4 := hg 4 _ rfl
  change DataW.trod enc Try.prog W base spare held n 37 ((l.drop 144).take (Try.prog.cellsOf 37)) = some y4 at f4
  rw [show Try.prog.cellsOf 37 = 32 from by kernel_rfl] at f4
  have f5 := hg 5 _ rfl
  change DataW.trod enc Try.prog W base spare held n 37 ((l.drop 176).take (Try.prog.cellsOf 37)) = some y5 at f5
  rw [show Try.prog.cellsOf 37 = 32 from by kernel_rfl] at f5
  have f6 := hg 6 _ rfl
  change DataW.trod enc Try.prog W base spare held n 40 ((l.drop 208).take (Try.prog.cellsOf 40)) = some y6 at f6
  rw [show Try.prog.cellsOf 40 = 1 from by kernel_rfl] at f6
  have f7 := hg 7 _ rfl
  change DataW.trod enc Try.prog W base spare held n 40 ((l.drop 209).take (Try.prog.cellsOf 40)) = some y7 at f7
  rw [show Try.prog.cellsOf 40 = 1 from by kernel_rfl] at f7
  have f8 := hg 8 _ rfl
  change DataW.trod enc Try.prog W base spare held n 40 ((l.drop 210).take (Try.prog.cellsOf 40)) = some y8 at f8
  rw [show Try.prog.cellsOf 40 = 1 from by kernel_rfl] at f8
  have f9 := hg 9 _ rfl
  change DataW.trod enc Try.prog W base spare held n 40 ((l.drop 211).take (Try.prog.cellsOf 40)) = some y9 at f9
  rw [show Try.prog.cellsOf 40 = 1 from by kernel_rfl] at f9
  have f10 := hg 10 _ rfl
  change DataW.trod enc Try.prog W base spare held n 40 ((l.drop 212).take (Try.prog.cellsOf 40)) = some y10 at f10
  rw [show Try.prog.cellsOf 40 = 1 from by kernel_rfl] at f10
  have f11 := hg 11 _ rfl
  change DataW.trod enc Try.prog W base spare held n 40 ((l.drop 213).take (Try.prog.cellsOf 40)) = some y11 at f11
  rw [show Try.prog.cellsOf 40 = 1 from by kernel_rfl] at f11
  have f12 := hg 12 _ rfl
  change DataW.trod enc Try.prog W base spare held n 42 ((l.drop 214).take (Try.prog.cellsOf 42)) = some y12 at f12
  rw [show Try.prog.cellsOf 42 = 65 from by kernel_rfl] at f12
  have f13 := hg 13 _ rfl
  change DataW.trod enc Try.prog W base spare held n 43 ((l.drop 279).take (Try.prog.cellsOf 43)) = some y13 at f13
  rw [show Try.prog.cellsOf 43 = 64 from by kernel_rfl] at f13
  obtain ⟨a0, l0, e0, b0⟩ := open_arr_cells Try.underlying35 (by kernel_rfl) (by kernel_rfl) f0
  obtain ⟨a1, l1, e1, b1⟩ := open_arr_cells Try.underlying37 (by kernel_rfl) (by kernel_rfl) f1
  obtain ⟨a3, l3, e3, b3⟩ := open_arr_cells Try.underlying37 (by kernel_rfl) (by kernel_rfl) f3
  obtain ⟨a4, l4, e4, b4⟩ := open_arr_cells Try.underlying37 (by kernel_rfl) (by kernel_rfl) f4
  obtain ⟨a5, l5, e5, b5⟩ := open_arr_cells Try.underlying37 (by kernel_rfl) (by kernel_rfl) f5
  obtain ⟨a13, l13, e13, b13⟩ := open_arr_cells Try.underlying43 (by kernel_rfl) (by kernel_rfl) f13
  obtain ⟨z6, e6, w6⟩ := open_word f6
  obtain ⟨z7, e7, w7⟩ := open_word f7
  obtain ⟨z8, e8, w8⟩ := open_word f8
  obtain ⟨z9, e9, w9⟩ := open_word f9
  obtain ⟨z10, e10, w10⟩ := open_word f10
  obtain ⟨z11, e11, w11⟩ := open_word f11
  obtain ⟨ps, n2, _, _, pl, plen, pg⟩ := DataW.trod_struct Try.underlying39 f2
  rw [show Try.prog.cellsOf 39 = 64 from by kernel_rfl] at pl
  match ps, plen with
  | [p0, p1], _ =>
  have g0 := pg 0 _ rfl
  change DataW.trod enc Try.prog W base spare held n2 37 ((((l.drop 48).take 64).drop 0).take (Try.prog.cellsOf 37)) = some p0 at g0
  rw [show Try.prog.cellsOf 37 = 32 from by kernel_rfl] at g0
  obtain ⟨c0, m0, q0, _⟩ := open_arr_cells Try.underlying37 (by kernel_rfl) (by kernel_rfl) g0
  have g1 := pg 1 _ rfl
  change DataW.trod enc Try.prog W base spare held n2 37 ((((l.drop 48).take 64).drop 32).take (Try.prog.cellsOf 37)) = some p1 at g1
  rw [show Try.prog.cellsOf 37 = 32 from by kernel_rfl] at g1
  obtain ⟨c1, m1, q1, _⟩ := open_arr_cells Try.underlying37 (by kernel_rfl) (by kernel_rfl) g1
  obtain ⟨hs, n3, _, _, hl3, hhlen, hhg⟩ := DataW.trod_struct Try.underlying42 f12
  rw [show Try.prog.cellsOf 42 = 65 from by kernel_rfl] at hl3
  match hs, hhlen with
  | [h0, h1, h2], _ =>
  have k0 := hhg 0 _ rfl
  change DataW.trod enc Try.prog W base spare held n3 37 ((((l.drop 214).take 65).drop 0).take (Try.prog.cellsOf 37)) = some h0 at k0
  rw [show Try.prog.cellsOf 37 = 32 from by kernel_rfl] at k0
  obtain ⟨d0, r0, s0, _⟩ := open_arr_cells Try.underlying37 (by kernel_rfl) (by kernel_rfl) k0
  have k1 := hhg 1 _ rfl
  change DataW.trod enc Try.prog W base spare held n3 37 ((((l.drop 214).take 65).drop 32).take (Try.prog.cellsOf 37)) = some h1 at k1
  rw [show Try.prog.cellsOf 37 = 32 from by kernel_rfl] at k1
  obtain ⟨d1, r1, s1, _⟩ := open_arr_cells Try.underlying37 (by kernel_rfl) (by kernel_rfl) k1
  have k2 := hhg 2 _ rfl
  change DataW.trod enc Try.prog W base spare held n3 40 ((((l.drop 214).take 65).drop 64).take (Try.prog.cellsOf 40)) = some h2 at k2
  rw [show Try.prog.cellsOf 40 = 1 from by kernel_rfl] at k2
  obtain ⟨d2, s2, _⟩ := open_word k2
  refine ⟨⟨a0 ++ (a1 ++ (c0 ++ (c1 ++ a3))), a4, a5, z6, z7, z8, z9, z10, z11, d0, d1, d2, a13⟩, ?_, ⟨by simp [l0, l1, m0, m1, l3], l4, l5, r0, r1, l13, w6, w7, w8, w9, w10, w11, b13⟩⟩
  have hc := split_state l hl
  rw [split2 _ pl, split3 _ hl3, q0, q1, s0, s1, s2, e0, e1, e3, e4, e5, e6, e7, e8, e9, e10, e11, e13] at hc
  congr 1
  rw [hc]
  simp [St.cl, iv_append, wv]
end
end Go.Proofs.Ytkceaepbjdfccaa
