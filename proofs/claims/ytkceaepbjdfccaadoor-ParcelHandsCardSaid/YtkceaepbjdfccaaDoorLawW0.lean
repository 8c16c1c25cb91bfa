/-
What the laws over a tray hold; their calls.
-/
import Derived.Test.YtkceaepbjdfccaaDoorPar19
import Derived.Deep.DeepCutAuto
namespace Go.Proofs.YtkceaepbjdfccaaDoor
open Go.RowKit
/-- of two numbers' greater, folded -/
theorem fold_mod (n M : Int) (hn : -9223372036854775808 ≤ n ∧ n ≤ 9223372036854775807) (hM : 0 < M) : ∃ N : Nat, (if n < wrap64 (-wrap64 (n + 1)) then wrap64 (-wrap64 (n + 1)) else n).tmod M = (N : Int) ∧ (N : Int) < M := by
  have h0 : 0 ≤ (if n < wrap64 (-wrap64 (n + 1)) then wrap64 (-wrap64 (n + 1)) else n) := by
    unfold wrap64
    split <;> omega
  generalize (if n < wrap64 (-wrap64 (n + 1)) then wrap64 (-wrap64 (n + 1)) else n) = x at *
  refine ⟨(x % M).toNat, ?_, ?_⟩
  · rw [Int.tmod_eq_emod_of_nonneg h0, Int.toNat_of_nonneg (Int.emod_nonneg _ (by omega))]
  · rw [Int.toNat_of_nonneg (Int.emod_nonneg _ (by omega))]
    exact Int.emod_lt_of_pos _ hM
theorem fold_modw (n M : Int) (hn : -9223372036854775808 ≤ n ∧ n ≤ 9223372036854775807) (hM : 0 < M) : ∃ N : Nat, (if n < IntKind.i64.wrap (-IntKind.i64.wrap (n + 1)) then IntKind.i64.wrap (-IntKind.i64.wrap (n + 1)) else n).tmod M = (N : Int) ∧ (N : Int) < M := by
  have e : ∀ x, IntKind.i64.wrap x = wrap64 x := fun x => by rw [IntKind.wrap_i64]; unfold wrap64; rfl
  rw [e, e]
  exact fold_mod n M hn hM
/-- what a law over one tray holds -/
structure LW (w W : World) (F : Nat → Prop) (t : Nat) (most : Int) (T : List Ent) (g : Nat) (ls : List (List UInt8)) (tv : Value) (l : List UInt8) : Prop where
  k : Kp [] w W
  tr : TR W F t most T
  pq : Pq W F g ls
  tx : Rs W F tv l
  fw : ∀ b, F b → w.heap.size ≤ b
theorem LW.kp0 {w W W' : World} {F : Nat → Prop} {t : Nat} {most : Int} {T : List Ent} {g : Nat} {ls : List (List UInt8)} {tv : Value} {l : List UInt8} (h : LW w W F t most T g ls tv l) (k : Kp [] W W') : LW w W' F t most T g ls tv l :=
  ⟨h.k.trans0 k, h.tr.kp0 k, h.pq.kp0 k, h.tx.kp0 k, h.fw⟩
theorem LW.kL {w W W' : World} {F : Nat → Prop} {t : Nat} {most : Int} {T : List Ent} {g : Nat} {ls : List (List UInt8)} {tv : Value} {l : List UInt8} (h : LW w W F t most T g ls tv l) {L : List Nat} (k : Kp L W W') (hL : ∀ b ∈ L, F b) : Kp [] w W' :=
  h.k.trans k (fun m hm => .inr (h.fw m (hL m hm)))
theorem LW.fn {w W W' : World} {F : Nat → Prop} {t : Nat} {most : Int} {T T' : List Ent} {g : Nat} {ls : List (List UInt8)} {tv : Value} {l : List UInt8} (h : LW w W F t most T g ls tv l) {L : List Nat} (tr : TR W' (Fn F W W') t most T') (hL : ∀ b ∈ L, F b) (k : Kp L W W') : LW w W' (Fn F W W') t most T' g ls tv l :=
  ⟨h.kL k hL, tr, h.pq.fn k hL, h.tx.fn k hL, fun b hb => by
    rcases hb with hb | hb
    · exact h.fw b hb
    · have := h.k.size; omega⟩
theorem LW.same {w W W' : World} {F : Nat → Prop} {t : Nat} {most : Int} {T T' : List Ent} {g : Nat} {ls : List (List UInt8)} {tv : Value} {l : List UInt8} (h : LW w W F t most T g ls tv l) {L : List Nat} (tr : TR W' F t most T') (hL : ∀ b ∈ L, F b) (k : Kp L W W') : LW w W' F t most T' g ls tv l :=
  ⟨h.kL k hL, tr, h.pq.kp k hL, h.tx.kp k hL, h.fw⟩
theorem partsM_ne (mk : List UInt8 → List UInt8) (id : Int) (l : List UInt8) : partsM mk id l ≠ [] := by
  intro e
  have := congrArg List.length e
  rw [partsM_len] at this
  unfold cntP at this
  simp at this
theorem Pts.shape {W : World} {B : Nat} {v : Value} {ls : List (List UInt8)} (h : Pts W B v ls) (hne : ls ≠ []) : ∃ g c, v = .slice (some ⟨g, 0, none⟩) ls.length c ∧ ∀ (W' : World) (F : Nat → Prop), Kp [] W W' → (∀ b, F b → W.heap.size ≤ b) → Pq W' F g ls := by
  obtain ⟨g, c, rfl, _⟩ := h.pq (F := fun _ => False) (Kp.refl [] W) hne (fun _ hb => hb.elim)
  refine ⟨g, c, rfl, fun W' F k hF => ?_⟩
  obtain ⟨g', c', he, hq⟩ := h.pq k hne hF
  simp only [Value.slice.injEq, Option.some.injEq, Addr.mk.injEq, true_and, and_true] at he
  obtain ⟨rfl, _⟩ := he
  exact hq
theorem strOf_append (a b : List UInt8) : strOf a ++ strOf b = strOf (a ++ b) := by
  have h : (strOf a ++ strOf b).data.toList = (strOf (a ++ b)).data.toList := by rw [ByteArray.data_append, Array.toList_append, strOf_toList, strOf_toList, strOf_toList]
  exact WideShapes.bytes_inj h
theorem new1_any (most : Int) (w : World) (h1 : 1 ≤ most) (h2 : most ≤ 64) :
    Calls Tryd.prog 25 #[.int .i64 most] w fun e w' => ∃ t F, e = .returned (.tuple #[.pointer (some ⟨t, 0, none⟩), .int .i64 0]) ∧ TR w' F t most [] ∧ (∀ b, F b → w.heap.size ≤ b) ∧ Kp [] w w' :=
  (newTray_any most w).mono fun e w' h => by
    rcases h with ⟨h, _⟩ | ⟨_, _, t, F, h3, h4, h5, h6⟩
    · exact absurd ⟨h1, h2⟩ h
    · exact ⟨t, F, h3, h4, h5, h6⟩
theorem Own.rsN {W W' : World} {B : Nat} {F : Nat → Prop} {v : Value} {l : List UInt8} (h : Own W B 5 v (bv l)) (k : Kp [] W W') (hF : ∀ b, F b → W.heap.size ≤ b) : Rs W' F v l :=
  ⟨h.rd.kp0 k, fun b hb => ⟨fun hf => absurd (hF b hf) (Nat.not_le.2 (h.lt hb).2), Nat.lt_of_lt_of_le (h.lt hb).2 k.size⟩⟩
section
variable {mk : List UInt8 → List UInt8} {w W : World} {F : Nat → Prop} {t : Nat} {most : Int} {T : List Ent} {g : Nat} {ls : List (List UInt8)} {tv : Value} {l : List UInt8}
theorem lw_add (ml : ∀ l, (mk l).length = 8) (mc : ∀ W v l, Kp [] w W → Rd W v (bv l) → l.length ≤ 562949953421312 → Calls Tryd.prog 43 #[v] W fun e w' => e = .returned (.agg (bv (mk l)).toArray) ∧ Kp [] W w')
    (h : LW w W F t most T g ls tv l) {p : List UInt8} (hp : p.length ≤ 140737488351232) {v : Value} {b : List UInt8} (hv : Rd W v (bv b)) (hb : b.length ≤ 211106232532992) {r : (Int × Bool × Int) × List Ent} (hr : addE mk most T p b = r) :
    Calls Tryd.prog 26 #[.pointer (some ⟨t, 0, none⟩), .string (strOf p), v] W fun e w' =>
      e = .returned (.tuple #[.int .u32 r.1.1, .bool r.1.2.1, .int .i64 r.1.2.2]) ∧ LW w w' (Fn F W w') t most r.2 g ls tv l ∧ ∃ L, (∀ b ∈ L, F b) ∧ Kp L W w' := by
  subst hr
  exact (add_any mk F t most T p v b W h.tr hp hv hb (fun W' v l k => mc W' v l (h.k.trans0 k)) ml).mono fun e w' ⟨h1, L, h2, h3, h4⟩ => ⟨h1, h.fn h2 h3 h4, L, h3, h4⟩
theorem lw_missing (h : LW w W F t most T g ls tv l) {p : List UInt8} (hp : p.length ≤ 140737488351232) {id : Int} (h0 : 0 ≤ id) (h1 : id < 4294967296) {r : List Nat × Int} (hr : missP T (p, id) = r) :
    Calls Tryd.prog 27 #[.pointer (some ⟨t, 0, none⟩), .string (strOf p), .int .u32 id] W fun e w' => ∃ v, e = .returned (.tuple #[v, .int .i64 r.2]) ∧ Own w' W.heap.size 3 v (nv r.1) ∧ LW w w' F t most T g ls tv l ∧ Kp [] W w' := by
  subst hr
  exact (missing_tray F t most T p id W h.tr hp h0 h1).mono fun e w' ⟨v, h2, h3, h4⟩ => ⟨v, h2, h3, h.kp0 h4, h4⟩
theorem lw_take (h : LW w W F t most T g ls tv l) {p : List UInt8} (hp : p.length ≤ 140737488351232) {id : Int} (h0 : 0 ≤ id) (h1 : id < 4294967296) {r : (List UInt8 × Int) × List Ent} (hr : takeP T (p, id) = r) :
    Calls Tryd.prog 28 #[.pointer (some ⟨t, 0, none⟩), .string (strOf p), .int .u32 id] W fun e w' => ∃ v, e = .returned (.tuple #[v, .int .i64 r.1.2]) ∧ Cut w' W.heap.size v r.1.1 ∧ LW w w' F t most r.2 g ls tv l ∧ ∃ L, (∀ b ∈ L, F b) ∧ Kp L W w' := by
  subst hr
  exact (take_tray F t most T p id W h.tr hp h0 h1).mono fun e w' ⟨v, L, h2, h3, h4, h5, h6⟩ => ⟨v, h2, h3, h.same h4 h5 h6, L, h5, h6⟩
end
def bob : List UInt8 := [98, 111, 98]
theorem bob_ok : peerErr bob.length = 0 := rfl
theorem bob_len : bob.length ≤ 140737488351232 := by show 3 ≤ _; omega
/-- a slice's length -/
def lenOf : Value → Nat
  | .slice _ n _ => n
  | _ => 0
theorem nv_one (l : List Nat) : ∀ u ∈ nv l, u.oneCell' = true := by
  intro u hu
  obtain ⟨_, _, rfl⟩ := List.mem_map.1 hu
  rfl
theorem Rd.num {w : World} {ao : Option Addr} {n cap : Nat} {l : List Nat} (h : Rd w (.slice ao n cap) (nv l)) {k x : Nat} (hk : l[k]? = some x) :
    ∃ b off, ao = some ⟨b, off, none⟩ ∧ w.cell? ⟨b, off + k, none⟩ = some (.int .i64 x) := by
  have hlt := (List.getElem?_eq_some_iff.1 hk).1
  have hn := h.len
  rw [nv_len] at hn
  obtain ⟨b, off, ha, hx, hc⟩ := h.at (k := k) (by omega)
  refine ⟨b, off, ha, ?_⟩
  rw [hc]
  have h2 : (nv l)[k]? = some (.int .i64 (x : Int)) := by unfold nv; rw [List.getElem?_map, hk]; rfl
  rw [List.getElem?_eq_getElem hx] at h2
  exact h2
theorem Rd.zint {w : World} {ao : Option Addr} {n cap : Nat} {l : List Int} (h : Rd w (.slice ao n cap) (zv l)) {k : Nat} (hk : k < l.length) :
    ∃ b off, ao = some ⟨b, off, none⟩ ∧ w.cell? ⟨b, off + k, none⟩ = some (.int .i64 l[k]) := by
  have hn := h.len
  rw [zv_len] at hn
  obtain ⟨b, off, ha, hx, hc⟩ := h.at (k := k) (by omega)
  refine ⟨b, off, ha, ?_⟩
  rw [hc]
  have h2 : (zv l)[k]? = some (.int .i64 l[k]) := by unfold zv; rw [List.getElem?_map, List.getElem?_eq_getElem hk]; rfl
  rw [List.getElem?_eq_getElem hx] at h2
  exact h2
end Go.Proofs.YtkceaepbjdfccaaDoor
