/-
A slice of calls that came in as data; the four tables as they are laid; in this claim's words.
-/
import Derived.Test.YtkceaepbjdfccaaDoorFrameK
import Derived.Test.YtkceaepbjdfccaaDoorLawExact
import Derived.Deep.Slices
import Derived.Deep.Fields
import Derived.ChangeSame
namespace Go.Proofs.YtkceaepbjdfccaaDoor
open Go.ChangeShapes Go.WideShapes Go.ChangeAt Go.RowKit Go.Deep
/-- the four tables, as a row lists them -/
def laidRef {H : Type} : List (String × DataW H) := [("lethe/letheref02.constants", Lib.tabData .u64 kkD), ("lethe/letheref02.begin", Lib.tabData .u64 bgD), ("lethe/sha.constants", Lib.tabData .u32 kkD), ("lethe/sha.begin", Lib.tabData .u32 bgD)]
theorem gRK : Tryd.prog.globalNamed "lethe/letheref02.constants" = some 3 := by kernel_rfl
theorem gRB : Tryd.prog.globalNamed "lethe/letheref02.begin" = some 2 := by kernel_rfl
theorem gRKt : (Tryd.prog.globals[(3 : Nat)]?).map (·.type) = some 168 := by kernel_rfl
theorem gRBt : (Tryd.prog.globals[(2 : Nat)]?).map (·.type) = some 167 := by kernel_rfl
theorem kkD_w32 : ∀ x ∈ kkD, W32 x := by unfold W32; decide
theorem bgD_w32 : ∀ x ∈ bgD, W32 x := by unfold W32; decide
set_option maxRecDepth 100000 in
theorem tabs4_of {W : World} (h : laidMetH Tryd.prog laidRef W) : Tabs kkD bgD W ∧ Tabr kkD bgD W := by
  rw [MakeChecks.laidMetH_plain _ _ _ (by kernel_rfl)] at h
  obtain ⟨ps, ⟨g2, t2, cs2, f2, p2, q2, hg2, ht2, hv2, hd2, ⟨g3, t3, cs3, f3, p3, q3, hg3, ht3, hv3, hd3, ⟨g0, t0, cs0, f0, p0, q0, hg0, ht0, hv0, hd0, ⟨g1, t1, cs1, f1, p1, q1, hg1, ht1, hv1, hd1, _, _⟩, _⟩, _⟩, _⟩, _, _⟩ := h
  obtain rfl := Option.some.inj (gK.symm.trans hg0)
  obtain rfl := Option.some.inj (gB.symm.trans hg1)
  obtain rfl := Option.some.inj (gKt.symm.trans ht0)
  obtain rfl := Option.some.inj (gBt.symm.trans ht1)
  obtain rfl := Option.some.inj (gRK.symm.trans hg2)
  obtain rfl := Option.some.inj (gRB.symm.trans hg3)
  obtain rfl := Option.some.inj (gRKt.symm.trans ht2)
  obtain rfl := Option.some.inj (gRBt.symm.trans ht3)
  have e0 := Lib.cells_of_tab (e := 48) (n := 64) Tryd.underlying158 Tryd.underlying48 (by kernel_rfl) (by kernel_rfl) hd0
  have e1 := Lib.cells_of_tab (e := 48) (n := 8) Tryd.underlying126 Tryd.underlying48 (by kernel_rfl) (by kernel_rfl) hd1
  have e2 := Lib.cells_of_tab (e := 131) (n := 64) Tryd.underlying168 Tryd.underlying131 (by kernel_rfl) (by kernel_rfl) hd2
  have e3 := Lib.cells_of_tab (e := 131) (n := 8) Tryd.underlying167 Tryd.underlying131 (by kernel_rfl) (by kernel_rfl) hd3
  have c0 : cs0 = u32s kkD := by apply Array.ext'; rw [e0]; simp [u32s]
  have c1 : cs1 = u32s bgD := by apply Array.ext'; rw [e1]; simp [u32s]
  have c2 : cs2 = u64s kkD := by apply Array.ext'; rw [e2]; simp [u64s]
  have c3 : cs3 = u64s bgD := by apply Array.ext'; rw [e3]; simp [u64s]
  subst c0 c1 c2 c3
  exact ⟨⟨rfl, rfl, heap_of_var gK hv0, heap_of_var gB hv1⟩, ⟨rfl, rfl, kkD_w32, bgD_w32, heap_of_var gRK hv2, heap_of_var gRB hv3⟩⟩
set_option maxRecDepth 100000 in
/-- the door's own heap meets the condition -/
theorem door_met4 (os : Os) (args : Array Value) : laidMetH Tryd.prog laidRef ((World.doorLaid Tryd.prog 29 os).forCall (fun _ _ => 0) ⟨#[], args, []⟩).memory :=
  laidMetH_of_parts3 (fuel := 8) (laidMet_of_run' 8 (by kernel_rfl) (by kernel_rfl)) (by kernel_rfl) (by kernel_rfl)
instance : Inhabited Sop := ⟨opR⟩
section
variable {H : Type} {enc : TypeId × Value → H} {W : World} {base : Nat} {spare : Nat → Bool} {held : Bool}
theorem weights_of_elem {P : Program} {e : TypeId} : ∀ {l : List (DataW H)} {d : DataW H}, d ∈ l → ∀ n ∈ d.weights P e, n ∈ DataW.weightsAll P e l
  | x :: r, d, h, n, hn => by
    simp only [DataW.weightsAll, List.mem_append]
    rcases List.mem_cons.1 h with rfl | h
    · exact .inl hn
    · exact .inr (weights_of_elem h n hn)
set_option maxRecDepth 100000 in
/-- an array of bytes in cells -/
theorem open_arr_cells {fuel n : Nat} {t : TypeId} {cs : List Value} {y : DataW H × List MemPlace}
    (ht : Tryd.prog.underlying t = some (.array n 5)) (hct : Tryd.prog.cellsOf t = n) (hce : Tryd.prog.cellsOf 5 = 1)
    (h : DataW.trod enc Tryd.prog W base spare held fuel t cs = some y) : ∃ key : List Int, key.length = n ∧ cs = iv key ∧ ∀ x ∈ key, B8 x := by
  obtain ⟨xs, m, _, _, hcl, hxl, hel⟩ := DataW.trod_array ht h
  rw [hct] at hcl
  have per : ∀ i, i < n → ∃ z : Int, cs[i]? = some (.int .u8 z) ∧ B8 z := by
    intro i hi
    have h1 := hel i hi
    rw [hce, List.getElem?_eq_getElem (by omega)] at h1
    obtain ⟨k, e0, _, wk⟩ := DataW.trod_int Tryd.underlying5 h1
    have hb := bounds_u8 wk
    refine ⟨k, ?_, hb.1, by omega⟩
    have e1 := congrArg (fun l => l[0]?) e0
    simp only [List.getElem?_cons_zero, List.getElem?_take, List.getElem?_drop, Nat.add_zero, Nat.mul_one] at e1
    rw [if_pos (by omega)] at e1
    exact e1
  let f : Value → Int := fun v => match v with | .int _ z => z | _ => 0
  refine ⟨cs.map f, by simp; exact hcl, ?_, ?_⟩
  · apply List.ext_getElem?
    intro i
    by_cases hi : i < n
    · obtain ⟨z, hz, _⟩ := per i hi
      rw [hz, iv, List.getElem?_map, List.getElem?_map, hz]
      rfl
    · rw [List.getElem?_eq_none (by omega), List.getElem?_eq_none (by rw [iv_length]; simp; omega)]
  · intro x hx
    obtain ⟨v, hv, rfl⟩ := List.mem_map.1 hx
    obtain ⟨i, hi, rfl⟩ := List.mem_iff_getElem.1 hv
    obtain ⟨z, hz, hb⟩ := per i (by omega)
    have : cs[i] = .int .u8 z := by
      rw [List.getElem?_eq_getElem hi] at hz
      exact Option.some.inj hz
    rw [this]
    exact hb
theorem cells_split (cs : List Value) (h : cs.length = 68) : cs = (cs.drop 0).take 1 ++ ((cs.drop 1).take 1 ++ ((cs.drop 2).take 1 ++ ((cs.drop 3).take 32 ++ ((cs.drop 35).take 32 ++ (cs.drop 67).take 1)))) := by
  have e6 : (cs.drop 67).take 1 = cs.drop 67 := List.take_of_length_le (by simp; omega)
  have st : ∀ a b, (cs.drop a).take b ++ cs.drop (a + b) = cs.drop a := fun a b => by rw [← List.drop_drop, List.take_append_drop]
  rw [e6, st 35 32, st 3 32, st 2 1, st 1 1, st 0 1]
  rfl
set_option maxRecDepth 100000 in
/-- a slice of calls -/
theorem open_sops {fuel : Nat} {v : Value} {y : DataW H × List MemPlace} (h : DataW.trod enc Tryd.prog W base spare held fuel 32 [v] = some y) (hw : ∀ n ∈ y.1.weights Tryd.prog 32, n ≤ reachBytes) :
    ∃ ao cap Fs, v = .slice ao (List.length Fs) cap ∧ Sops W ao Fs ∧ Fs.length ≤ 140737488351232 := by
  rcases open_slice Tryd.underlying32 h with ⟨hcs, _⟩ | ⟨a, len, cap, m, n, D, Pl, hcs, hb, hl, hm, hmm, rfl, hi⟩
  · simp at hcs
    subst hcs
    exact ⟨none, 0, [], rfl, fun i F hF => by simp at hF, by simp⟩
  · simp at hcs
    subst hcs
    rw [show Tryd.prog.cellsOf 35 = 68 from by kernel_rfl] at hi
    have hlm : len ≤ m := by rw [hmm]; split <;> omega
    have hbig : len ≤ 140737488351232 := by
      have h1 := hw ((((List.range len).map D).length + ((List.range (m - len)).map fun j => D (len + j)).length) * Tryd.prog.bytesOf 35) (by simp only [DataW.weights, Tryd.underlying32]; exact List.mem_cons.2 (.inl rfl))
      rw [show Tryd.prog.bytesOf 35 = 120 from by kernel_rfl] at h1
      simp only [List.length_map, List.length_range, reachBytes] at h1
      omega
    have hspot : 0 < len → a.spot = none := by
      intro h0
      obtain ⟨cs', hc, _⟩ := hi 0 (by omega)
      obtain ⟨_, hcl, hat⟩ := World.cells?_some hc
      have c0 := hat 0 (by omega)
      rw [List.getElem?_eq_getElem (by omega)] at c0
      have hsp := World.cell?_spot c0
      simpa [Addr.add] using hsp
    have per : ∀ i, i < len → ∃ F : Sop, ∃ b off, a = ⟨b, off, none⟩ ∧ W.rangeAt b (off + i * 68) F.cl ∧ F.ok := by
      intro i hil
      obtain ⟨cs', hc, ht'⟩ := hi i (by omega)
      obtain ⟨_, hcl, hat⟩ := World.cells?_some hc
      obtain ⟨xs, n', _, hy, _, hxl, hf⟩ := DataW.trod_struct Tryd.underlying35 ht'
      match xs, hxl with
      | [y0, y1, y2, y3, y4, y5], _ =>
      have f0 := hf 0 _ rfl
      have f1 := hf 1 _ rfl
      have f2 := hf 2 _ rfl
      have f3 := hf 3 _ rfl
      have f4 := hf 4 _ rfl
      have f5 := hf 5 _ rfl
      change DataW.trod enc Tryd.prog W base spare held n' 3 ((cs'.drop 0).take (Tryd.prog.cellsOf 3)) = some y0 at f0
      rw [show Tryd.prog.cellsOf 3 = 1 from by kernel_rfl] at f0
      change DataW.trod enc Tryd.prog W base spare held n' 9 ((cs'.drop 1).take (Tryd.prog.cellsOf 9)) = some y1 at f1
      rw [show Tryd.prog.cellsOf 9 = 1 from by kernel_rfl] at f1
      change DataW.trod enc Tryd.prog W base spare held n' 9 ((cs'.drop 2).take (Tryd.prog.cellsOf 9)) = some y2 at f2
      rw [show Tryd.prog.cellsOf 9 = 1 from by kernel_rfl] at f2
      change DataW.trod enc Tryd.prog W base spare held n' 23 ((cs'.drop 3).take (Tryd.prog.cellsOf 23)) = some y3 at f3
      rw [show Tryd.prog.cellsOf 23 = 32 from by kernel_rfl] at f3
      change DataW.trod enc Tryd.prog W base spare held n' 23 ((cs'.drop 35).take (Tryd.prog.cellsOf 23)) = some y4 at f4
      rw [show Tryd.prog.cellsOf 23 = 32 from by kernel_rfl] at f4
      change DataW.trod enc Tryd.prog W base spare held n' 9 ((cs'.drop 67).take (Tryd.prog.cellsOf 9)) = some y5 at f5
      rw [show Tryd.prog.cellsOf 9 = 1 from by kernel_rfl] at f5
      obtain ⟨k0, e0, _, _⟩ := DataW.trod_int Tryd.underlying3 f0
      obtain ⟨s1, e1, d1, _⟩ := DataW.trod_string Tryd.underlying9 f1
      obtain ⟨s2, e2, d2, _⟩ := DataW.trod_string Tryd.underlying9 f2
      obtain ⟨x3, l3, e3, b3⟩ := open_arr_cells Tryd.underlying23 (by kernel_rfl) (by kernel_rfl) f3
      obtain ⟨x4, l4, e4, b4⟩ := open_arr_cells Tryd.underlying23 (by kernel_rfl) (by kernel_rfl) f4
      obtain ⟨s5, e5, d5, _⟩ := DataW.trod_string Tryd.underlying9 f5
      simp only [Prod.mk.injEq] at hy
      have hD : D i ∈ (List.range len).map D := List.mem_map.2 ⟨i, List.mem_range.2 hil, rfl⟩
      have hsz1 : s1.size ≤ 140737488351232 := by
        have h1 : s1.data.toList.length ≤ reachBytes := by
          refine hw _ ?_
          simp only [DataW.weights, Tryd.underlying32]
          refine List.mem_cons_of_mem _ (List.mem_append.2 (.inl (weights_of_elem hD _ ?_)))
          rw [hy.1, d1]
          simp only [DataW.weights, Tryd.underlying35]
          exact DataW.weights_mem_each (j := 1) rfl rfl _ (by simp [DataW.weights])
        simp only [reachBytes] at h1
        exact (show s1.data.toList.length = s1.size from Array.length_toList) ▸ h1
      have hsz2 : s2.size ≤ 140737488351232 := by
        have h1 : s2.data.toList.length ≤ reachBytes := by
          refine hw _ ?_
          simp only [DataW.weights, Tryd.underlying32]
          refine List.mem_cons_of_mem _ (List.mem_append.2 (.inl (weights_of_elem hD _ ?_)))
          rw [hy.1, d2]
          simp only [DataW.weights, Tryd.underlying35]
          exact DataW.weights_mem_each (j := 2) rfl rfl _ (by simp [DataW.weights])
        simp only [reachBytes] at h1
        exact (show s2.data.toList.length = s2.size from Array.length_toList) ▸ h1
      have hsz5 : s5.size ≤ 140737488351232 := by
        have h1 : s5.data.toList.length ≤ reachBytes := by
          refine hw _ ?_
          simp only [DataW.weights, Tryd.underlying32]
          refine List.mem_cons_of_mem _ (List.mem_append.2 (.inl (weights_of_elem hD _ ?_)))
          rw [hy.1, d5]
          simp only [DataW.weights, Tryd.underlying35]
          exact DataW.weights_mem_each (j := 5) rfl rfl _ (by simp [DataW.weights])
        simp only [reachBytes] at h1
        exact (show s5.data.toList.length = s5.size from Array.length_toList) ▸ h1
      obtain ⟨b, off, sp⟩ := a
      have hsp' : sp = none := hspot (by omega)
      subst hsp'
      refine ⟨⟨k0, s1, s2, x3, x4, s5⟩, b, off, rfl, ?_, ⟨l3, l4, b3, b4, hsz1, hsz2, hsz5⟩⟩
      have hcs : cs' = Sop.cl ⟨k0, s1, s2, x3, x4, s5⟩ := by
        rw [cells_split cs' hcl, e0, e1, e2, e3, e4, e5]
        rfl
      intro j v hv
      rw [← hcs] at hv
      have hj := (List.getElem?_eq_some_iff.1 hv).1
      have := hat j (by omega)
      rw [add_add, add_plain, ← Nat.add_assoc] at this
      rw [this]; exact hv
    obtain ⟨f, hf⟩ := choose_lt per
    refine ⟨some a, cap, (List.range len).map f, by simp, fun i F hF => ?_, by simpa using hbig⟩
    have hil : i < len := by have := (List.getElem?_eq_some_iff.1 hF).1; simpa using this
    have hFe : F = f i := by simpa [hil] using hF.symm
    subst hFe
    obtain ⟨b, off, rfl, h0, h1⟩ := hf i hil
    exact ⟨b, off, rfl, h0, h1⟩
end
end Go.Proofs.YtkceaepbjdfccaaDoor
