/-
Slices of bytes that came in as data, in this claim's words.
-/
import Derived.Test.YtkceaepbjdfccaaBase
import Derived.ProofKit
import Derived.OpenShut
import Derived.ShutString
import Derived.ChangeOld
import Derived.SizedLaws
namespace Go.Proofs.Ytkceaepbjdfccaa
open Go.ChangeShapes Go.WideShapes Go.ChangeAt Go.RowKit

/-- What the opening of a slice of integers tells: nil, or a row of cap cells. -/
def IsRow (k : IntKind) (w : World) (a : Option Addr) (len cap : Nat) (zs : List Int) : Prop :=
  (a = none ∧ len = 0 ∧ cap = 0 ∧ zs = []) ∨
  ∃ x, a = some x ∧ len ≤ cap ∧ zs.length = cap ∧ (∀ i, i < zs.length → w.cell? (x.add i) = some (.int k (zs.getD i 0))) ∧ ∀ n ∈ zs, (Lit.int k n).wf = true

theorem IsRow.bytes {w : World} {a : Option Addr} {len cap : Nat} {zs : List Int} (h : IsRow .u8 w a len cap zs) :
    ∃ l : List UInt8, l.length = len ∧ Rd w (.slice a len cap) (bv l) := by
  rcases h with ⟨rfl, rfl, rfl, rfl⟩ | ⟨x, rfl, hl, hz, hc, hw⟩
  · exact ⟨[], rfl, Rd.nil w⟩
  · refine ⟨(zs.take len).map fun n => UInt8.ofNat n.toNat, by simp; omega, ?_⟩
    have hlen : (bv ((zs.take len).map fun n => UInt8.ofNat n.toNat)).length = len := by simp [bv]; omega
    refine ⟨some x, cap, by rw [hlen], by rw [hlen]; exact hl, (fun h => by cases h), fun b hb => ?_⟩
    cases hb
    intro i u hu
    have hi : i < len := by rw [← hlen]; exact (List.getElem?_eq_some_iff.1 hu).1
    have hiz : i < zs.length := by omega
    rw [hc i hiz]
    have hwf := bounds_u8 (hw zs[i] (List.getElem_mem hiz))
    unfold bv at hu
    simp only [List.map_map, List.getElem?_map, List.getElem?_take, if_pos hi, List.getElem?_eq_getElem hiz, Option.map_some, Function.comp_apply, Option.some.injEq] at hu
    rw [← hu, u8_ofInt _ hwf.1 (by omega)]
    simp [List.getD, List.getElem?_eq_getElem hiz]
end Go.Proofs.Ytkceaepbjdfccaa
