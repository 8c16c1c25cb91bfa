/-
Slices of fields that came in as data, in this claim's words.
-/
import Derived.Test.YtkceaepbjdfccaaFrame
import Derived.Test.YtkceaepbjdfccaaFld4
import Derived.Deep.Slices
import Derived.Deep.Fields
import Derived.ChangeSame
namespace Go.Proofs.Ytkceaepbjdfccaa
open Go.ChangeShapes Go.WideShapes Go.ChangeAt Go.RowKit Go.Deep
instance : Inhabited Fld := ⟨⟨0, 0, []⟩⟩
section
variable {H : Type} {enc : TypeId × Value → H} {W : World} {base : Nat} {spare : Nat → Bool} {held : Bool}
theorem weights_of_part {P : Program} {e : TypeId} : ∀ {l : List (DataW H)} {d : DataW H}, d ∈ l → ∀ n ∈ d.weights P e, n ∈ DataW.weightsAll P e l
  | x :: r, d, h, n, hn => by
    simp only [DataW.weightsAll, List.mem_append]
    rcases List.mem_cons.1 h with rfl | h
    · exact .inl hn
    · exact .inr (weights_of_part h n hn)
set_option maxRecDepth 20000 in
/-- a slice of bytes in one cell -/
theorem open_bytes {fuel : Nat} {v : Value} {y : DataW H × List MemPlace} (h : DataW.trod enc Try.prog W base spare held fuel 22 [v] = some y) (hw : ∀ n ∈ y.1.weights Try.prog 22, n ≤ reachBytes) :
    ∃ ao cap l, v = .slice ao l.length cap ∧ Rd W (.slice ao l.length cap) (bv l) ∧ l.length ≤ 140737488351232 := by
  rcases open_ints Try.underlying22 Try.underlying5 (by kernel_rfl) h with ⟨hcs, _⟩ | ⟨x, l, c, zs, hcs, _, hl, hm, hz, hx, hcell, hwz⟩
  · simp at hcs
    subst hcs
    exact ⟨none, 0, [], rfl, Rd.nil W, by simp⟩
  · simp at hcs
    subst hcs hx
    have hq := hw ((lits .u8 (zs.take l)).length + (lits .u8 (zs.drop l)).length) (by simp only [DataW.weights, Try.underlying22]; rw [show Try.prog.bytesOf 5 = 1 from by kernel_rfl]; exact List.mem_cons.2 (.inl (Nat.mul_one _).symm))
    simp only [lits, List.length_map, List.length_take, List.length_drop, reachBytes] at hq
    have hz' : l ≤ zs.length := by rw [hz]; split <;> omega
    have hr : IsRow .u8 W (some x) l zs.length zs := .inr ⟨_, rfl, hz', rfl, hcell, hwz⟩
    obtain ⟨l', hl', hr'⟩ := hr.bytes
    subst hl'
    refine ⟨some x, c, l', rfl, ?_, by omega⟩
    obtain ⟨ao, cap, e, h1, h2, h3⟩ := hr'
    simp only [Value.slice.injEq] at e
    obtain ⟨rfl, h4, _⟩ := e
    exact ⟨some x, c, by rw [h4], by rw [← h4]; exact hl, (fun h => by cases h), h3⟩
set_option maxRecDepth 20000 in
/-- a slice of fields -/
theorem open_flds {fuel : Nat} {v : Value} {y : DataW H × List MemPlace} (h : DataW.trod enc Try.prog W base spare held fuel 50 [v] = some y) (hw : ∀ n ∈ y.1.weights Try.prog 50, n ≤ reachBytes) :
    ∃ ao cap Fs, v = .slice ao (List.length Fs) cap ∧ Fds W ao Fs ∧ Fs.length ≤ 140737488351232 := by
  rcases open_slice Try.underlying50 h with ⟨hcs, _⟩ | ⟨a, len, cap, m, n, D, Pl, hcs, hb, hl, hm, hmm, rfl, hi⟩
  · simp at hcs
    subst hcs
    exact ⟨none, 0, [], rfl, fun i F hF => by simp at hF, by simp⟩
  · simp at hcs
    subst hcs
    rw [show Try.prog.cellsOf 57 = 3 from by kernel_rfl] at hi
    have hlm : len ≤ m := by rw [hmm]; split <;> omega
    have hbig : len ≤ 140737488351232 := by
      have h1 := hw ((((List.range len).map D).length + ((List.range (m - len)).map fun j => D (len + j)).length) * Try.prog.bytesOf 57) (by simp only [DataW.weights, Try.underlying50]; exact List.mem_cons.2 (.inl rfl))
      rw [show Try.prog.bytesOf 57 = 40 from by kernel_rfl] at h1
      simp only [List.length_map, List.length_range, reachBytes] at h1
      omega
    have hspot : 0 < len → a.spot = none := by
      intro h0
      obtain ⟨cs', hc, _⟩ := hi 0 (by omega)
      obtain ⟨_, hcl, hat⟩ := World.cells?_some hc
      have c0 := hat 0 (by omega)
      rw [List.getElem?_eq_getElem (by omega)] at c0
      have hsp := World.cell?_spot c0
      simpa [Addr.add] using hsp
    have per : ∀ i, i < len → ∃ F : Fld, ∃ b off ax cx, a = ⟨b, off, none⟩ ∧ W.cell? ⟨b, off + i * 3, none⟩ = some (.int .i64 F.kind) ∧ W.cell? ⟨b, off + i * 3 + 1, none⟩ = some (.int .i64 F.n) ∧
        W.cell? ⟨b, off + i * 3 + 2, none⟩ = some (.slice ax F.b.length cx) ∧ Rd W (.slice ax F.b.length cx) (bv F.b) ∧ F.b.length ≤ 140737488351232 := by
      intro i hil
      obtain ⟨cs', hc, ht'⟩ := hi i (by omega)
      obtain ⟨_, hcl, hat⟩ := World.cells?_some hc
      obtain ⟨xs, n', _, hy, _, hxl, hf⟩ := DataW.trod_struct Try.underlying57 ht'
      match cs', hcl with
      | [v0, v1, v2], _ =>
      match xs, hxl with
      | [y0, y1, y2], _ =>
      have f0 := hf 0 _ rfl
      have f1 := hf 1 _ rfl
      have f2 := hf 2 _ rfl
      simp [show Try.prog.cellsOf 3 = 1 from by kernel_rfl] at f0
      simp [show Try.prog.cellsOf 3 = 1 from by kernel_rfl] at f1
      simp [show Try.prog.cellsOf 22 = 1 from by kernel_rfl] at f2
      obtain ⟨k0, e0, _, _⟩ := DataW.trod_int Try.underlying3 f0
      obtain ⟨k1, e1, _, _⟩ := DataW.trod_int Try.underlying3 f1
      simp only [List.cons.injEq, and_true] at e0 e1
      subst e0 e1
      simp only [Prod.mk.injEq] at hy
      have hD : D i ∈ (List.range len).map D := List.mem_map.2 ⟨i, List.mem_range.2 hil, rfl⟩
      have hw2 : ∀ n ∈ y2.1.weights Try.prog 22, n ≤ reachBytes := fun n hn => by
        refine hw n ?_
        simp only [DataW.weights, Try.underlying50]
        refine List.mem_cons_of_mem _ (List.mem_append.2 (.inl (weights_of_part hD n ?_)))
        rw [hy.1]
        simp only [DataW.weights, Try.underlying57]
        exact DataW.weights_mem_each (j := 2) rfl rfl n hn
      obtain ⟨ax, cx, l, rfl, hr, hll⟩ := open_bytes f2 hw2
      have c0 := hat 0 (by omega)
      have c1 := hat 1 (by omega)
      have c2 := hat 2 (by omega)
      obtain ⟨b, off, sp⟩ := a
      have hsp' : sp = none := hspot (by omega)
      subst hsp'
      rw [add_add, add_plain] at c0 c1 c2
      exact ⟨⟨k0, k1, l⟩, b, off, ax, cx, rfl, c0, c1, c2, hr, hll⟩
    obtain ⟨f, hf⟩ := choose_lt per
    refine ⟨some a, cap, (List.range len).map f, by simp, fun i F hF => ?_, by simpa using hbig⟩
    have hil : i < len := by have := (List.getElem?_eq_some_iff.1 hF).1; simpa using this
    have hFe : F = f i := by simpa [hil] using hF.symm
    subst hFe
    obtain ⟨b, off, ax, cx, rfl, h0, h1, h2, h3, h4⟩ := hf i hil
    exact ⟨b, off, ax, cx, rfl, h0, h1, h2, h3, h4⟩
end
end Go.Proofs.Ytkceaepbjdfccaa
