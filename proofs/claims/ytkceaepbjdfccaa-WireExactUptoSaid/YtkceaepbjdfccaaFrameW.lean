/-
A script of calls that came in as data, of small bulk; in this claim's words.
-/
import Derived.Test.YtkceaepbjdfccaaRows
import Derived.Test.YtkceaepbjdfccaaFrame
import Derived.Test.YtkceaepbjdfccaaBase
import Derived.Deep.Slices
import Derived.Deep.Fields
namespace Go.Proofs.Ytkceaepbjdfccaa
open Go.ChangeShapes Go.WideShapes Go.ChangeAt Go.RowKit Go.Deep
/-- one step of a script -/
structure WOp where
  kind : Int
  which : Int
  n : Int
  bv_ : Value
  bs : List UInt8
  cv_ : Value
  cs : List UInt8
  s : ByteArray
structure WOp.ok (o : WOp) : Prop where
  b : o.bs.length ≤ 1048576
  c : o.cs.length ≤ 1048576
  s : o.s.size ≤ 1048576
def WOp.cl (o : WOp) : List Value := [.int .i64 o.kind, .int .i64 o.which, .int .i64 o.n, o.bv_, o.cv_, .string o.s]
/-- a script in memory -/
def WOps (w : World) (ao : Option Addr) (Fs : List WOp) : Prop := ∀ (i : Nat) (F : WOp), Fs[i]? = some F → ∃ b off, ao = some ⟨b, off, none⟩ ∧ w.rangeAt b (off + i * 6) F.cl ∧ Rd w F.bv_ (bv F.bs) ∧ Rd w F.cv_ (bv F.cs) ∧ F.ok
instance : Inhabited WOp := ⟨⟨0, 0, 0, .slice none 0 0, [], .slice none 0 0, [], ByteArray.empty⟩⟩
/-- What the opening of a slice of integers tells: nil, or a row of cap cells. -/
def WRow (k : IntKind) (w : World) (a : Option Addr) (len cap : Nat) (zs : List Int) : Prop :=
  (a = none ∧ len = 0 ∧ cap = 0 ∧ zs = []) ∨
  ∃ x, a = some x ∧ len ≤ cap ∧ zs.length = cap ∧ (∀ i, i < zs.length → w.cell? (x.add i) = some (.int k (zs.getD i 0))) ∧ ∀ n ∈ zs, (Lit.int k n).wf = true
theorem WRow.bytes {w : World} {a : Option Addr} {len cap : Nat} {zs : List Int} (h : WRow .u8 w a len cap zs) :
    ∃ l : List UInt8, l.length = len ∧ Rd w (.slice a len cap) (bv l) := by
  rcases h with ⟨rfl, rfl, rfl, rfl⟩ | ⟨x, rfl, hl, hz, hc, hw⟩
  · exact ⟨[], rfl, Rd.nil w⟩
  · refine ⟨(zs.take len).map fun n => UInt8.ofNat n.toNat, by simp; omega, ?_⟩
    have hlen : (bv ((zs.take len).map fun n => UInt8.ofNat n.toNat)).length = len := by simp [bv]; omega
    refine ⟨some x, cap, by rw [hlen], by rw [hlen]; exact hl, (fun h => by cases h), fun b hb => ?_⟩
    cases hb
    intro i u hu
    have hi : i < len := by rw [← hlen]; exact (List.getElem?_eq_some_iff.1 hu).1
    have hiz : i < zs.length := by omega
    rw [hc i hiz]
    have hwf := bounds_u8 (hw zs[i] (List.getElem_mem hiz))
    unfold bv at hu
    simp only [List.map_map, List.getElem?_map, List.getElem?_take, if_pos hi, List.getElem?_eq_getElem hiz, Option.map_some, Function.comp_apply, Option.some.injEq] at hu
    rw [← hu, u8_ofInt _ hwf.1 (by omega)]
    simp [List.getD, List.getElem?_eq_getElem hiz]
theorem bulk_one {H : Type} (d : DataW H) : 1 ≤ Rows.uptoBulk d := by
  cases d with
  | lit l => cases l <;> simp [Rows.uptoBulk]
  | nil => simp [Rows.uptoBulk]
  | ptr d => simp [Rows.uptoBulk]
  | slice elems spare => simp [Rows.uptoBulk]
  | agg parts => simp [Rows.uptoBulk]
  | iface t d => simp [Rows.uptoBulk]
  | map entries => simp [Rows.uptoBulk]
  | held h => simp [Rows.uptoBulk]
theorem bulk_part {H : Type} {d : DataW H} {l : List (DataW H)} (h : d ∈ l) : Rows.uptoBulk d ≤ Rows.uptoBulkAll l := by
  induction l with
  | nil => cases h
  | cons x r ih =>
    simp only [Rows.uptoBulkAll]
    cases List.mem_cons.1 h with
    | inl e => subst e; omega
    | inr e => have := ih e; omega
theorem bulk_len {H : Type} (l : List (DataW H)) : l.length ≤ Rows.uptoBulkAll l := by
  induction l with
  | nil => simp [Rows.uptoBulkAll]
  | cons x r ih => have := bulk_one x; simp only [Rows.uptoBulkAll, List.length_cons]; omega
theorem bulk_slice {H : Type} (elems spare : List (DataW H)) : Rows.uptoBulkAll elems ≤ Rows.uptoBulk (.slice elems spare) := by
  simp only [Rows.uptoBulk]
  omega
theorem bulk_agg {H : Type} (l : List (DataW H)) : Rows.uptoBulkAll l ≤ Rows.uptoBulk (.agg l) := by
  simp only [Rows.uptoBulk]
  omega
theorem bulk_str {H : Type} (bytes : List UInt8) : Rows.uptoBulk (DataW.lit (H := H) (.string bytes)) = bytes.length + 1 := by
  simp [Rows.uptoBulk]
section
variable {H : Type} {enc : TypeId × Value → H} {W : World} {base : Nat} {spare : Nat → Bool} {held : Bool}
set_option maxRecDepth 20000 in
/-- a slice of bytes in one cell -/
theorem open_wbytes {fuel : Nat} {v : Value} {y : DataW H × List MemPlace} (h : DataW.trod enc Try.prog W base spare held fuel 22 [v] = some y) (hw : Rows.uptoBulk y.1 ≤ 1048576) :
    ∃ ao cap l, v = .slice ao l.length cap ∧ Rd W (.slice ao l.length cap) (bv l) ∧ l.length ≤ 1048576 := by
  rcases open_ints Try.underlying22 Try.underlying5 (by kernel_rfl) h with ⟨hcs, _⟩ | ⟨x, l, c, zs, hcs, _, hl, hm, hz, hx, hcell, hwz⟩
  · simp at hcs
    subst hcs
    exact ⟨none, 0, [], rfl, Rd.nil W, by simp⟩
  · simp at hcs
    subst hcs hx
    have hq := Nat.le_trans (bulk_len _) (Nat.le_trans (bulk_slice _ _) hw)
    simp only [lits, List.length_map, List.length_take] at hq
    have hz' : l ≤ zs.length := by rw [hz]; split <;> omega
    have hr : WRow .u8 W (some x) l zs.length zs := .inr ⟨_, rfl, hz', rfl, hcell, hwz⟩
    obtain ⟨l', hl', hr'⟩ := hr.bytes
    subst hl'
    refine ⟨some x, c, l', rfl, ?_, by omega⟩
    obtain ⟨ao, cap, e, h1, h2, h3⟩ := hr'
    simp only [Value.slice.injEq] at e
    obtain ⟨rfl, h4, _⟩ := e
    exact ⟨some x, c, by rw [h4], by rw [← h4]; exact hl, (fun h => by cases h), h3⟩
set_option maxRecDepth 100000 in
/-- a script -/
theorem open_wops {fuel : Nat} {v : Value} {y : DataW H × List MemPlace} (h : DataW.trod enc Try.prog W base spare held fuel 80 [v] = some y) (hw : Rows.uptoBulk y.1 ≤ 1048576) :
    ∃ ao cap Fs, v = .slice ao (List.length Fs) cap ∧ WOps W ao Fs ∧ Fs.length ≤ 1048576 := by
  rcases open_slice Try.underlying80 h with ⟨hcs, _⟩ | ⟨a, len, cap, m, n, D, Pl, hcs, hb, hl, hm, hmm, rfl, hi⟩
  · simp at hcs
    subst hcs
    exact ⟨none, 0, [], rfl, fun i F hF => by simp at hF, by simp⟩
  · simp at hcs
    subst hcs
    rw [show Try.prog.cellsOf 95 = 6 from by kernel_rfl] at hi
    have hlm : len ≤ m := by rw [hmm]; split <;> omega
    have hbig : len ≤ 1048576 := by
      have h1 := Nat.le_trans (bulk_len _) (Nat.le_trans (bulk_slice _ _) hw)
      simpa using h1
    have hspot : 0 < len → a.spot = none := by
      intro h0
      obtain ⟨cs', hc, _⟩ := hi 0 (by omega)
      obtain ⟨_, hcl, hat⟩ := World.cells?_some hc
      have c0 := hat 0 (by omega)
      rw [List.getElem?_eq_getElem (by omega)] at c0
      have hsp := World.cell?_spot c0
      simpa [Addr.add] using hsp
    have per : ∀ i, i < len → ∃ F : WOp, ∃ b off, a = ⟨b, off, none⟩ ∧ W.rangeAt b (off + i * 6) F.cl ∧ Rd W F.bv_ (bv F.bs) ∧ Rd W F.cv_ (bv F.cs) ∧ F.ok := by
      intro i hil
      obtain ⟨cs', hc, ht'⟩ := hi i (by omega)
      obtain ⟨_, hcl, hat⟩ := World.cells?_some hc
      obtain ⟨xs, n', _, hy, _, hxl, hf⟩ := DataW.trod_struct Try.underlying95 ht'
      match cs', hcl with
      | [v0, v1, v2, v3, v4, v5], _ =>
      match xs, hxl with
      | [y0, y1, y2, y3, y4, y5], _ =>
      have f0 := hf 0 _ rfl
      have f1 := hf 1 _ rfl
      have f2 := hf 2 _ rfl
      have f3 := hf 3 _ rfl
      have f4 := hf 4 _ rfl
      have f5 := hf 5 _ rfl
      simp [show Try.prog.cellsOf 3 = 1 from by kernel_rfl] at f0
      simp [show Try.prog.cellsOf 3 = 1 from by kernel_rfl] at f1
      simp [show Try.prog.cellsOf 3 = 1 from by kernel_rfl] at f2
      simp [show Try.prog.cellsOf 22 = 1 from by kernel_rfl] at f3
      simp [show Try.prog.cellsOf 22 = 1 from by kernel_rfl] at f4
      simp [show Try.prog.cellsOf 9 = 1 from by kernel_rfl] at f5
      obtain ⟨k0, e0, _, _⟩ := DataW.trod_int Try.underlying3 f0
      obtain ⟨k1, e1, _, _⟩ := DataW.trod_int Try.underlying3 f1
      obtain ⟨k2, e2, _, _⟩ := DataW.trod_int Try.underlying3 f2
      obtain ⟨s5, e5, d5, _⟩ := DataW.trod_string Try.underlying9 f5
      simp only [List.cons.injEq, and_true] at e0 e1 e2 e5
      subst e0 e1 e2 e5
      simp only [Prod.mk.injEq] at hy
      have hD : D i ∈ (List.range len).map D := List.mem_map.2 ⟨i, List.mem_range.2 hil, rfl⟩
      have hbi : Rows.uptoBulk (D i) ≤ 1048576 := Nat.le_trans (bulk_part hD) (Nat.le_trans (bulk_slice _ _) hw)
      rw [hy.1] at hbi
      have hpart : ∀ d ∈ List.map (fun p : DataW H × List MemPlace => p.1) [y0, y1, y2, y3, y4, y5], Rows.uptoBulk d ≤ 1048576 := fun d hd => Nat.le_trans (bulk_part hd) (Nat.le_trans (bulk_agg _) hbi)
      have hsz5 : s5.size ≤ 1048576 := by
        have h1 := hpart y5.1 (by simp)
        rw [d5, bulk_str] at h1
        have : s5.data.toList.length = s5.size := Array.length_toList
        omega
      obtain ⟨ab, cb, lb, rfl, hrb, hlb⟩ := open_wbytes f3 (hpart y3.1 (by simp))
      obtain ⟨ac, cc, lc, rfl, hrc, hlc⟩ := open_wbytes f4 (hpart y4.1 (by simp))
      obtain ⟨b, off, sp⟩ := a
      have hsp' : sp = none := hspot (by omega)
      subst hsp'
      refine ⟨⟨k0, k1, k2, .slice ab lb.length cb, lb, .slice ac lc.length cc, lc, s5⟩, b, off, rfl, ?_, hrb, hrc, ⟨hlb, hlc, hsz5⟩⟩
      intro j v hv
      have hj := (List.getElem?_eq_some_iff.1 hv).1
      have := hat j hj
      rw [add_add, add_plain, ← Nat.add_assoc] at this
      rw [this]; exact hv
    obtain ⟨f, hf⟩ := choose_lt per
    refine ⟨some a, cap, (List.range len).map f, by simp, fun i F hF => ?_, by simpa using hbig⟩
    have hil : i < len := by have := (List.getElem?_eq_some_iff.1 hF).1; simpa using this
    have hFe : F = f i := by simpa [hil] using hF.symm
    subst hFe
    obtain ⟨b, off, rfl, h0, h1, h2, h3⟩ := hf i hil
    exact ⟨b, off, rfl, h0, h1, h2, h3⟩
end
end Go.Proofs.Ytkceaepbjdfccaa
