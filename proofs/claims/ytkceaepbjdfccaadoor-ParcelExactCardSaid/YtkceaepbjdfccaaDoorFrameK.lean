/-
Keys that came in as data; the tables of package sha as they are laid; in this claim's words.
-/
import Derived.Test.YtkceaepbjdfccaaDoorRows
import Derived.Test.YtkceaepbjdfccaaDoorHalf1
import Derived.ProofKit
import Derived.OpenShut
import Derived.ShutString
import Derived.ChangeOld
import Derived.SizedLaws
import Derived.LaidMore
import Derived.Lib.LaidTab
namespace Go.Proofs.YtkceaepbjdfccaaDoor
open Go.ChangeShapes Go.WideShapes Go.ChangeAt Go.RowKit
/-- the sixty-four constants -/
def kkD : List Int := [1116352408, 1899447441, 3049323471, 3921009573, 961987163, 1508970993, 2453635748, 2870763221, 3624381080, 310598401, 607225278, 1426881987, 1925078388, 2162078206, 2614888103, 3248222580, 3835390401, 4022224774, 264347078, 604807628, 770255983, 1249150122, 1555081692, 1996064986, 2554220882, 2821834349, 2952996808, 3210313671, 3336571891, 3584528711, 113926993, 338241895, 666307205, 773529912, 1294757372, 1396182291, 1695183700, 1986661051, 2177026350, 2456956037, 2730485921, 2820302411, 3259730800, 3345764771, 3516065817, 3600352804, 4094571909, 275423344, 430227734, 506948616, 659060556, 883997877, 958139571, 1322822218, 1537002063, 1747873779, 1955562222, 2024104815, 2227730452, 2361852424, 2428436474, 2756734187, 3204031479, 3329325298]
/-- the eight words at the beginning -/
def bgD : List Int := [1779033703, 3144134277, 1013904242, 2773480762, 1359893119, 2600822924, 528734635, 1541459225]
set_option maxRecDepth 100000 in
theorem okWide_arr {P : Program} {w : World} {r : Reach} {base : Nat} {t : TypeId} {v : Value} {n : Nat} {e : TypeId} (ht : P.underlying t = some (.array n e)) (h : Value.okWide P w r base t v) : ∃ cs, v = .agg cs ∧ cs.size = P.cellsOf t := by
  simp only [Value.okWide, ht] at h
  obtain ⟨cs, h1, h2, _⟩ := h
  exact ⟨cs, h1, h2⟩
set_option maxRecDepth 100000 in
/-- an array of bytes by value -/
theorem open_arr {H : Type} {enc : TypeId × Value → H} {W : World} {base : Nat} {spare : Nat → Bool} {held : Bool} {r : Reach} {b0 n : Nat} {t : TypeId} {v : Value} {d : DataW H} {p : List MemPlace}
    (ht : Tryd.prog.underlying t = some (.array n 5)) (hct : Tryd.prog.cellsOf t = n) (hce : Tryd.prog.cellsOf 5 = 1)
    (hv : Value.okWide Tryd.prog W r b0 t v) (h : DataW.Trod enc Tryd.prog W base spare held t v d p) : ∃ key : List Int, key.length = n ∧ v = .agg (u8s key) ∧ ∀ x ∈ key, 0 ≤ x ∧ x < 256 := by
  obtain ⟨cs, rfl, hsz⟩ := okWide_arr ht hv
  obtain ⟨fuel, hf⟩ := h
  obtain ⟨xs, m, _, _, hcl, hxl, hel⟩ := DataW.trod_array ht hf
  rw [hct] at hsz
  have per : ∀ i, i < n → ∃ z : Int, cs[i]? = some (.int .u8 z) ∧ 0 ≤ z ∧ z < 256 := by
    intro i hi
    have h1 := hel i hi
    rw [hce, List.getElem?_eq_getElem (by omega)] at h1
    obtain ⟨k, e0, _, wk⟩ := DataW.trod_int Tryd.underlying5 h1
    have hb := bounds_u8 wk
    refine ⟨k, ?_, hb.1, by omega⟩
    simp only [Value.cells, Nat.mul_one] at e0
    have e1 := congrArg (fun l => l[0]?) e0
    simp only [List.getElem?_cons_zero, List.getElem?_take, List.getElem?_drop, Nat.add_zero] at e1
    rw [if_pos (by omega)] at e1
    simpa using e1
  let f : Value → Int := fun v => match v with | .int _ z => z | _ => 0
  refine ⟨cs.toList.map f, by simp; exact hsz, ?_, ?_⟩
  · congr 1
    apply Array.ext_getElem?
    intro i
    by_cases hi : i < n
    · obtain ⟨z, hz, _⟩ := per i hi
      rw [hz, u8s, List.getElem?_toArray, List.getElem?_map, List.getElem?_map, Array.getElem?_toList, hz]
      rfl
    · rw [Array.getElem?_eq_none (by omega), Array.getElem?_eq_none (by rw [u8s_size]; simp; omega)]
  · intro x hx
    obtain ⟨v, hv, rfl⟩ := List.mem_map.1 hx
    obtain ⟨i, hi, rfl⟩ := List.mem_iff_getElem.1 hv
    have hin : i < n := by simpa [hsz] using hi
    obtain ⟨z, hz, h0, h1⟩ := per i hin
    have : cs.toList[i] = .int .u8 z := by
      have h2 : cs.toList[i]? = some (.int .u8 z) := by rw [Array.getElem?_toList]; exact hz
      rw [List.getElem?_eq_getElem hi] at h2
      exact Option.some.inj h2
    rw [this]
    exact ⟨h0, h1⟩
set_option maxRecDepth 100000 in
theorem open_key {H : Type} {enc : TypeId × Value → H} {W : World} {base : Nat} {spare : Nat → Bool} {held : Bool} {r : Reach} {b0 : Nat} {v : Value} {d : DataW H} {p : List MemPlace}
    (hv : Value.okWide Tryd.prog W r b0 23 v) (h : DataW.Trod enc Tryd.prog W base spare held 23 v d p) : ∃ key : List Int, key.length = 32 ∧ v = .agg (u8s key) ∧ ∀ x ∈ key, 0 ≤ x ∧ x < 256 :=
  open_arr Tryd.underlying23 (by kernel_rfl) (by kernel_rfl) hv h
theorem heap_of_var {P : Program} {W : World} {name : String} {g : Nat} {cs : Array Value} (hg : P.globalNamed name = some g) (hv : W.var? P name = some cs) : ∃ T fr, W.heap[g]? = some (.cells cs T fr) := by
  simp only [World.var?, hg, Option.bind_some] at hv
  split at hv
  · rename_i c T fr h
    cases hv
    exact ⟨T, fr, h⟩
  · cases hv
/-- the two tables of package sha, as a row lists them -/
def laidSha {H : Type} : List (String × DataW H) := [("lethe/sha.constants", Lib.tabData .u32 kkD), ("lethe/sha.begin", Lib.tabData .u32 bgD)]
theorem gK : Tryd.prog.globalNamed "lethe/sha.constants" = some 1 := by kernel_rfl
theorem gB : Tryd.prog.globalNamed "lethe/sha.begin" = some 0 := by kernel_rfl
theorem gKt : (Tryd.prog.globals[(1 : Nat)]?).map (·.type) = some 158 := by kernel_rfl
theorem gBt : (Tryd.prog.globals[(0 : Nat)]?).map (·.type) = some 126 := by kernel_rfl
set_option maxRecDepth 100000 in
theorem tabs_of {W : World} (h : laidMetH Tryd.prog laidSha W) : Tabs kkD bgD W := by
  rw [MakeChecks.laidMetH_plain _ _ _ (by kernel_rfl)] at h
  obtain ⟨ps, ⟨g0, t0, cs0, f0, p0, q0, hg0, ht0, hv0, hd0, ⟨g1, t1, cs1, f1, p1, q1, hg1, ht1, hv1, hd1, _, _⟩, _⟩, _, _⟩ := h
  obtain rfl := Option.some.inj (gK.symm.trans hg0)
  obtain rfl := Option.some.inj (gB.symm.trans hg1)
  obtain rfl := Option.some.inj (gKt.symm.trans ht0)
  obtain rfl := Option.some.inj (gBt.symm.trans ht1)
  have e0 := Lib.cells_of_tab (e := 48) (n := 64) Tryd.underlying158 Tryd.underlying48 (by kernel_rfl) (by kernel_rfl) hd0
  have e1 := Lib.cells_of_tab (e := 48) (n := 8) Tryd.underlying126 Tryd.underlying48 (by kernel_rfl) (by kernel_rfl) hd1
  have c0 : cs0 = u32s kkD := by apply Array.ext'; rw [e0]; simp [u32s]
  have c1 : cs1 = u32s bgD := by apply Array.ext'; rw [e1]; simp [u32s]
  subst c0 c1
  exact ⟨rfl, rfl, heap_of_var gK hv0, heap_of_var gB hv1⟩
set_option maxRecDepth 100000 in
/-- the door's own heap meets the condition -/
theorem door_met (os : Os) (args : Array Value) : laidMetH Tryd.prog laidSha ((World.doorLaid Tryd.prog 29 os).forCall (fun _ _ => 0) ⟨#[], args, []⟩).memory :=
  laidMetH_of_parts3 (fuel := 8) (laidMet_of_run' 8 (by kernel_rfl) (by kernel_rfl)) (by kernel_rfl) (by kernel_rfl)
end Go.Proofs.YtkceaepbjdfccaaDoor
