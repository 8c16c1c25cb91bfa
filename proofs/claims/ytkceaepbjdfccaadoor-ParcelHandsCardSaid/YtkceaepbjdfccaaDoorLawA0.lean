/-
What a law over a tray and several slices holds; its calls. The plain steps of 'ParcelApart'.
-/
import Derived.Test.YtkceaepbjdfccaaDoorLawW0
namespace Go.Proofs.YtkceaepbjdfccaaDoor
open Go.RowKit
/-- a tray, slices of slices and slices that it does not meet -/
structure LX (w W : World) (F : Nat → Prop) (t : Nat) (most : Int) (T : List Ent) (P : List (Nat × List (List UInt8))) (R : List (Value × List UInt8)) : Prop where
  k : Kp [] w W
  tr : TR W F t most T
  pq : ∀ p ∈ P, Pq W F p.1 p.2
  rs : ∀ r ∈ R, Rs W F r.1 r.2
  fw : ∀ b, F b → w.heap.size ≤ b
section
variable {w W W' : World} {F : Nat → Prop} {t : Nat} {most : Int} {T T' : List Ent} {P : List (Nat × List (List UInt8))} {R : List (Value × List UInt8)}
theorem LX.kp0 (h : LX w W F t most T P R) (k : Kp [] W W') : LX w W' F t most T P R :=
  ⟨h.k.trans0 k, h.tr.kp0 k, fun p hp => (h.pq p hp).kp0 k, fun r hr => (h.rs r hr).kp0 k, h.fw⟩
theorem LX.kL (h : LX w W F t most T P R) {L : List Nat} (k : Kp L W W') (hL : ∀ b ∈ L, F b) : Kp [] w W' :=
  h.k.trans k (fun m hm => .inr (h.fw m (hL m hm)))
theorem LX.fn (h : LX w W F t most T P R) {L : List Nat} (tr : TR W' (Fn F W W') t most T') (hL : ∀ b ∈ L, F b) (k : Kp L W W') : LX w W' (Fn F W W') t most T' P R :=
  ⟨h.kL k hL, tr, fun p hp => (h.pq p hp).fn k hL, fun r hr => (h.rs r hr).fn k hL, fun b hb => by
    rcases hb with hb | hb
    · exact h.fw b hb
    · have := h.k.size; omega⟩
theorem LX.same (h : LX w W F t most T P R) {L : List Nat} (tr : TR W' F t most T') (hL : ∀ b ∈ L, F b) (k : Kp L W W') : LX w W' F t most T' P R :=
  ⟨h.kL k hL, tr, fun p hp => (h.pq p hp).kp k hL, fun r hr => (h.rs r hr).kp k hL, h.fw⟩
theorem LX.more (h : LX w W F t most T P R) {v : Value} {l : List UInt8} (hr : Rs W F v l) : LX w W F t most T P ((v, l) :: R) :=
  ⟨h.k, h.tr, h.pq, fun r hm => by rcases List.mem_cons.1 hm with rfl | hm; exact hr; exact h.rs r hm, h.fw⟩
theorem LX.moreP (h : LX w W F t most T P R) {g : Nat} {ls : List (List UInt8)} (hr : Pq W F g ls) : LX w W F t most T ((g, ls) :: P) R :=
  ⟨h.k, h.tr, fun p hm => by rcases List.mem_cons.1 hm with rfl | hm; exact hr; exact h.pq p hm, h.rs, h.fw⟩
theorem lx_add {mk : List UInt8 → List UInt8} (ml : ∀ l, (mk l).length = 8) (mc : ∀ W v l, Kp [] w W → Rd W v (bv l) → l.length ≤ 562949953421312 → Calls Tryd.prog 43 #[v] W fun e w' => e = .returned (.agg (bv (mk l)).toArray) ∧ Kp [] W w')
    (h : LX w W F t most T P R) {p : List UInt8} (hp : p.length ≤ 140737488351232) {v : Value} {b : List UInt8} (hv : Rd W v (bv b)) (hb : b.length ≤ 211106232532992) {r : (Int × Bool × Int) × List Ent} (hr : addE mk most T p b = r) :
    Calls Tryd.prog 26 #[.pointer (some ⟨t, 0, none⟩), .string (strOf p), v] W fun e w' =>
      e = .returned (.tuple #[.int .u32 r.1.1, .bool r.1.2.1, .int .i64 r.1.2.2]) ∧ LX w w' (Fn F W w') t most r.2 P R ∧ ∃ L, (∀ b ∈ L, F b) ∧ Kp L W w' := by
  subst hr
  exact (add_any mk F t most T p v b W h.tr hp hv hb (fun W' v l k => mc W' v l (h.k.trans0 k)) ml).mono fun e w' ⟨h1, L, h2, h3, h4⟩ => ⟨h1, h.fn h2 h3 h4, L, h3, h4⟩
theorem lx_missing (h : LX w W F t most T P R) {p : List UInt8} (hp : p.length ≤ 140737488351232) {id : Int} (h0 : 0 ≤ id) (h1 : id < 4294967296) {r : List Nat × Int} (hr : missP T (p, id) = r) :
    Calls Tryd.prog 27 #[.pointer (some ⟨t, 0, none⟩), .string (strOf p), .int .u32 id] W fun e w' => ∃ v, e = .returned (.tuple #[v, .int .i64 r.2]) ∧ Own w' W.heap.size 3 v (nv r.1) ∧ LX w w' F t most T P R ∧ Kp [] W w' := by
  subst hr
  exact (missing_tray F t most T p id W h.tr hp h0 h1).mono fun e w' ⟨v, h2, h3, h4⟩ => ⟨v, h2, h3, h.kp0 h4, h4⟩
theorem lx_take (h : LX w W F t most T P R) {p : List UInt8} (hp : p.length ≤ 140737488351232) {id : Int} (h0 : 0 ≤ id) (h1 : id < 4294967296) {r : (List UInt8 × Int) × List Ent} (hr : takeP T (p, id) = r) :
    Calls Tryd.prog 28 #[.pointer (some ⟨t, 0, none⟩), .string (strOf p), .int .u32 id] W fun e w' => ∃ v, e = .returned (.tuple #[v, .int .i64 r.1.2]) ∧ Cut w' W.heap.size v r.1.1 ∧ LX w w' F t most r.2 P R ∧ ∃ L, (∀ b ∈ L, F b) ∧ Kp L W w' := by
  subst hr
  exact (take_tray F t most T p id W h.tr hp h0 h1).mono fun e w' ⟨v, L, h2, h3, h4, h5, h6⟩ => ⟨v, h2, h3, h.same h4 h5 h6, L, h5, h6⟩
end
def eve : List UInt8 := [101, 118, 101]
def joe : List UInt8 := [106, 111, 101]
/-- a part with other bytes of content -/
def partC (mk : List UInt8 → List UInt8) (id : Int) (l c : List UInt8) (i : Nat) : List UInt8 :=
  [lo8 5] ++ be32 id ++ [lo8 (cntP l.length : Int)] ++ [lo8 (i : Int)] ++ (mk l ++ c)
theorem partM_C (mk : List UInt8 → List UInt8) (id : Int) (l : List UInt8) (i : Nat) : partM mk id l i = partC mk id l (contP l i) i := rfl
theorem readL_C {mk : List UInt8 → List UInt8} (hm : ∀ l, (mk l).length = 8) {id : Int} (h0 : 0 ≤ id) (h1 : id < 4294967296) {l c : List UInt8} (hl : l.length ≤ 31808) {i : Nat} (hi : i < cntP l.length) (hc : c.length = (contP l i).length) :
    readL (partC mk id l c i) = some ⟨id, (cntP l.length : Int), (i : Int), mk l, c⟩ := by
  have h8 := hm l
  have hlen : (partC mk id l c i).length = 15 + c.length := by
    unfold partC
    simp only [List.length_append, h8, be32, List.length_cons, List.length_nil]
    omega
  have hcs := cntP_small hl
  have hcc := contP_length l i
  obtain ⟨e1, e2, e3, e4, e5, e6⟩ := rs_long (b := partC mk id l c i) (by omega)
  have d1 : (partC mk id l c i).drop 15 = c := by
    show ((mk l ++ c)).drop 8 = c
    rw [List.drop_append_of_le_length (by omega), List.drop_of_length_le (by omega)]
    rfl
  have d2 : ((partC mk id l c i).drop 7).take 8 = mk l := by
    show ((mk l ++ c)).take 8 = mk l
    rw [List.take_append_of_le_length (by omega), List.take_of_length_le (by omega)]
  have n1 : numL (rs1 (partC mk id l c i)).1 = 5 := by rw [e1]; exact num8' 5 (by decide) (by decide)
  have n2 : numL (rs2 (partC mk id l c i)).1 = id := by rw [e2]; exact num32' id h0 h1
  have n3 : numL (rs3 (partC mk id l c i)).1 = (cntP l.length : Int) := by rw [e3]; exact num8' _ (by omega) (by omega)
  have n4 : numL (rs4 (partC mk id l c i)).1 = (i : Int) := by rw [e4]; exact num8' _ (by omega) (by omega)
  have n5 : (rs5 (partC mk id l c i)).1 = mk l := by rw [e5]; exact d2
  have n6 : (rs6 (partC mk id l c i)).1 = c := by rw [e6]; exact d1
  have hcd : cntP l.length = max 1 ((l.length + 496) / 497) := rfl
  rw [readL_some (by rw [e5]) n1 (by rw [n3]; omega) (by rw [n3]; omega) (by rw [n3, n4]; omega) (by rw [n6]; omega) (fun hh => by rw [n3, n4] at hh; rw [n6]; omega) (fun hh => by rw [n6] at hh; rw [n3]; omega)]
  unfold prtOf
  rw [n2, n3, n4, n5, n6]
/-- a byte of a slice of one's own, to be written -/
theorem Own.slot {w : World} {B n c : Nat} {a : Option Addr} {l : List UInt8} (h : Own w B 5 (.slice a n c) (bv l)) {k : Nat} (hk : k < l.length) :
    ∃ g, a = some ⟨g, 0, none⟩ ∧ w.cell? ⟨g, k, none⟩ = some (.int .u8 (l[k].toNat : Int)) ∧ w.frozen? ⟨g, k, none⟩ = false ∧ B ≤ g ∧ g < w.heap.size ∧ ∀ u : UInt8, Own (w.setCell ⟨g, k, none⟩ (bval u)) B 5 (.slice a n c) (bv (l.set k u)) := by
  have hn := h.rd.len
  rw [bv_length] at hn
  rcases h.2 with ⟨h1, h2⟩ | ⟨g, cap, cur, hv, hb, hg, h1, h2, h3, h4⟩
  · rw [bv_length] at h2; omega
  · simp only [Value.slice.injEq] at hv
    obtain ⟨rfl, _, rfl⟩ := hv
    have hc : w.cell? ⟨g, k, none⟩ = some (.int .u8 (l[k].toNat : Int)) := by
      have := h.rd
      obtain ⟨b, off, ha, hx, hcc⟩ := (show Rd w (.slice (some ⟨g, 0, none⟩) n c) (bv l) from this).byte (k := k) (by omega)
      simp only [Option.some.injEq, Addr.mk.injEq] at ha
      obtain ⟨rfl, rfl, _⟩ := ha
      rw [Nat.zero_add] at hcc
      exact hcc
    refine ⟨g, rfl, hc, frozen_of_row w g k _ _ hg, hb, (Array.getElem?_eq_some_iff.1 hg).1, fun u => ⟨by simp [bv_length], .inr ⟨g, c, cur.setIfInBounds k (bval u), by rw [bv_length, List.length_set]; simp [hn], hb, heap_setCell_same w g k _ _ _ hg, by rw [bv_length, List.length_set, ← hn]; rw [bv_length, ← hn] at h1; exact h1, h2, by simpa using h3, ?_⟩⟩⟩
    rw [bv_length, List.length_set, Array.toList_setIfInBounds, List.take_set]
    rw [bv_length] at h4
    rw [h4]
    simp [bv, List.map_set]
/-! two peers under one id, two parts each -/
section
variable {mk : List UInt8 → List UInt8} (hm : ∀ l, (mk l).length = 8) {id : Int} (h0 : 0 ≤ id) (h1 : id < 4294967296) {A B : List UInt8} (hA : 498 ≤ A.length ∧ A.length ≤ 897) (hB : B.length = A.length)
include hA in
theorem cnt2 : cntP A.length = 2 := by unfold cntP; omega
include hA in
theorem text2 (c : List UInt8) : textL [some (contP A 0), some c] = A.take 497 ++ c ∧ textL [some (contP A 0), some (contP A 1)] = A := by
  have e0 : contP A 0 = A.take 497 := by simp [contP]
  have e1 : contP A 1 = A.drop 497 := by unfold contP; exact List.take_of_length_le (by rw [List.length_drop]; omega)
  constructor
  · simp [textL, e0]
  · simp [textL, e0, e1]
def EA (mk : List UInt8 → List UInt8) (id : Int) (A : List UInt8) (p : List UInt8) (c : Option (List UInt8)) : Ent := ⟨p, id, mk A, [some (contP A 0), c]⟩
include hm h0 h1 hA in
theorem ap1 : addE mk 2 [] bob (partM mk id A 0) = ((id, false, 0), [EA mk id A bob none]) := by
  have hc := cnt2 hA
  unfold addE
  rw [if_neg (by decide), readL_part hm h0 h1 (by omega) (by omega), hc]
  rfl
include hm h0 h1 hA hB in
theorem ap2 : addE mk 2 [EA mk id A bob none] eve (partM mk id B 0) = ((id, false, 0), [EA mk id A bob none, EA mk id B eve none]) := by
  have hc : cntP B.length = 2 := by rw [hB]; exact cnt2 hA
  unfold addE
  rw [if_neg (by decide), readL_part hm h0 h1 (by omega) (by omega), hc]
  have hf : findE [EA mk id A bob none] (eve, id) = none := by simp [findE, EA, Ent.ky, bob, eve]
  simp only
  rw [hf]
  rfl
include hm h0 h1 hA hB in
theorem ap3 : addE mk 2 [EA mk id A bob none, EA mk id B eve none] joe (partM mk id B 0) = ((0, false, 120), [EA mk id A bob none, EA mk id B eve none]) := by
  have hc : cntP B.length = 2 := by rw [hB]; exact cnt2 hA
  unfold addE
  rw [if_neg (by decide), readL_part hm h0 h1 (by omega) (by omega), hc]
  have hf : findE [EA mk id A bob none, EA mk id B eve none] (joe, id) = none := by simp [findE, EA, Ent.ky, bob, eve, joe]
  simp only
  rw [hf]
  rfl
include hm h0 h1 hA hB in
theorem ap4 (hne : mk A ≠ mk B) : addE mk 2 [EA mk id A bob none, EA mk id B eve none] bob (partM mk id B 1) = ((0, false, 260), [EA mk id A bob none, EA mk id B eve none]) := by
  have hc : cntP B.length = 2 := by rw [hB]; exact cnt2 hA
  unfold addE
  rw [if_neg (by decide), readL_part hm h0 h1 (by omega) (by omega), hc]
  have hf : findE [EA mk id A bob none, EA mk id B eve none] (bob, id) = some (EA mk id A bob none) := by simp [findE, EA, Ent.ky]
  simp only
  rw [hf]
  simp only
  rw [if_pos (.inr hne)]
include hm h0 h1 hA in
theorem ap5 {c : List UInt8} (hc : c.length = (contP A 1).length) (hne : mk (A.take 497 ++ c) ≠ mk A) : addE mk 2 [EA mk id A bob none, EA mk id B eve none] bob (partC mk id A c 1) = ((0, false, 101), [EA mk id A bob none, EA mk id B eve none]) := by
  have h2 := cnt2 hA
  unfold addE
  rw [if_neg (by decide), readL_C hm h0 h1 (by omega) (by omega) hc, h2]
  have hf : findE [EA mk id A bob none, EA mk id B eve none] (bob, id) = some (EA mk id A bob none) := by simp [findE, EA, Ent.ky]
  simp only
  rw [hf]
  simp only
  rw [if_neg (by rintro (h | h); exact h rfl; exact h rfl), if_neg (fun h => h rfl), if_pos ⟨rfl, (by rw [(text2 hA c).1]; exact hne : mk (textL [some (contP A 0), some c]) ≠ mk A)⟩]
include hm h0 h1 hA in
theorem ap6 : addE mk 2 [EA mk id A bob none, EA mk id B eve none] bob (partM mk id A 1) = ((id, true, 0), [EA mk id A bob (some (contP A 1)), EA mk id B eve none]) := by
  have h2 := cnt2 hA
  unfold addE
  rw [if_neg (by decide), readL_part hm h0 h1 (by omega) (by omega), h2]
  have hf : findE [EA mk id A bob none, EA mk id B eve none] (bob, id) = some (EA mk id A bob none) := by simp [findE, EA, Ent.ky]
  simp only
  rw [hf]
  simp only
  rw [if_neg (by rintro (h | h); exact h rfl; exact h rfl), if_neg (fun h => h rfl), if_neg ?_]
  · refine Prod.ext rfl ?_
    show setE [EA mk id A bob none, EA mk id B eve none] (bob, id) 1 (contP A 1) = _
    simp [setE, EA, Ent.ky, bob, eve]
  · rintro ⟨_, h⟩
    apply h
    show mk (textL [some (contP A 0), some (contP A 1)]) = mk A
    rw [(text2 hA []).2]
include hm h0 h1 hA hB in
theorem ap7 : addE mk 2 [EA mk id A bob (some (contP A 1)), EA mk id B eve none] eve (partM mk id B 1) = ((id, true, 0), [EA mk id A bob (some (contP A 1)), EA mk id B eve (some (contP B 1))]) := by
  have hB' : 498 ≤ B.length ∧ B.length ≤ 897 := by rw [hB]; exact hA
  have h2 := cnt2 hB'
  unfold addE
  rw [if_neg (by decide), readL_part hm h0 h1 (by omega) (by omega), h2]
  have hf : findE [EA mk id A bob (some (contP A 1)), EA mk id B eve none] (eve, id) = some (EA mk id B eve none) := by simp [findE, EA, Ent.ky, bob, eve]
  simp only
  rw [hf]
  simp only
  rw [if_neg (by rintro (h | h); exact h rfl; exact h rfl), if_neg (fun h => h rfl), if_neg ?_]
  · refine Prod.ext rfl ?_
    show setE [EA mk id A bob (some (contP A 1)), EA mk id B eve none] (eve, id) 1 (contP B 1) = _
    simp [setE, EA, Ent.ky, bob, eve]
  · rintro ⟨_, h⟩
    apply h
    show mk (textL [some (contP B 0), some (contP B 1)]) = mk B
    rw [(text2 hB' []).2]
include hA in
theorem ap8 : takeP [EA mk id A bob (some (contP A 1)), EA mk id B eve (some (contP B 1))] (bob, id) = ((A, 0), [EA mk id B eve (some (contP B 1))]) := by
  unfold takeP
  have hf : findE [EA mk id A bob (some (contP A 1)), EA mk id B eve (some (contP B 1))] (bob, id) = some (EA mk id A bob (some (contP A 1))) := by simp [findE, EA, Ent.ky]
  have hp : ¬ peerErr ((bob, id) : Ky).1.length ≠ 0 := (by decide : ¬ peerErr 3 ≠ 0)
  rw [if_neg hp, hf]
  simp only
  rw [if_neg (by show ¬ 0 < 0; omega)]
  have ht : textL (EA mk id A bob (some (contP A 1))).parts = A := (text2 hA []).2
  rw [ht]
  simp [EA, Ent.ky, bob, eve]
include hA hB in
theorem ap9 : takeP [EA mk id B eve (some (contP B 1))] (eve, id) = ((B, 0), []) := by
  have hB' : 498 ≤ B.length ∧ B.length ≤ 897 := by rw [hB]; exact hA
  unfold takeP
  have hf : findE [EA mk id B eve (some (contP B 1))] (eve, id) = some (EA mk id B eve (some (contP B 1))) := by simp [findE, EA, Ent.ky]
  have hp : ¬ peerErr ((eve, id) : Ky).1.length ≠ 0 := (by decide : ¬ peerErr 3 ≠ 0)
  rw [if_neg hp, hf]
  simp only
  rw [if_neg (by show ¬ 0 < 0; omega)]
  have ht : textL (EA mk id B eve (some (contP B 1))).parts = B := (text2 hB' []).2
  rw [ht]
  simp [EA, Ent.ky]
end
end Go.Proofs.YtkceaepbjdfccaaDoor
