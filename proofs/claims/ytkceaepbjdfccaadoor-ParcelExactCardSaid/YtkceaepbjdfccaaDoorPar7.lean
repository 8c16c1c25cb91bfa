/-
A parcel in memory; (*parcel.parcel).missing and text.
-/
import Derived.Test.YtkceaepbjdfccaaDoorPar6
namespace Go.Proofs.YtkceaepbjdfccaaDoor
open Go.RowKit
/-- a part that has come, in block xb -/
structure PartAt (w : World) (xb : Nat) (q : Prt) (cv : Value) : Prop where
  h : w.heap[xb]? = some (.cells (pcl q.id q.cnt q.idx q.sum cv).toArray 101 (0, 0))
  s : q.sum.length = 8
  c : Rd w cv (bv q.cont)
  l : q.cont.length ≤ 497
  b : ∀ b, cv.ownBlock = some b → b < w.heap.size
/-- a place of a parcel -/
def PtAt (w : World) (F : Nat → Prop) (v : Value) : Option (List UInt8) → Prop
  | none => v = .pointer none
  | some c => ∃ xb q cv, v = pv xb ∧ F xb ∧ PartAt w xb q cv ∧ q.cont = c ∧ ∀ b, cv.ownBlock = some b → F b
/-- a parcel in block pb, its places in block ab; all of it but the places in blocks of F -/
structure PcAt (w : World) (F : Nat → Prop) (pb ab : Nat) (sum : List UInt8) (ps : List (Option (List UInt8))) : Prop where
  f1 : F pb
  hp : w.heap[pb]? = some (.cells (bv sum ++ [Value.slice (some ⟨ab, 0, none⟩) ps.length ps.length]).toArray 109 (0, 0))
  hs : sum.length = 8
  hn : 1 ≤ ps.length ∧ ps.length ≤ 64
  ha : ∃ vals : List Value, w.heap[ab]? = some (.cells vals.toArray 110 (0, 0)) ∧ vals.length = ps.length ∧ ∀ (i : Nat) (v : Value) (o : Option (List UInt8)), vals[i]? = some v → ps[i]? = some o → PtAt w F v o
theorem PartAt.kp {w w' : World} {L : List Nat} {xb : Nat} {q : Prt} {cv : Value} (h : PartAt w xb q cv) (k : Kp L w w') (hx : xb ∉ L) (hc : ∀ b, cv.ownBlock = some b → b ∉ L) : PartAt w' xb q cv :=
  ⟨k.heap h.h hx, h.s, h.c.kp k hc, h.l, fun b hb => Nat.lt_of_lt_of_le (h.b b hb) k.size⟩
theorem PtAt.kp {w w' : World} {L : List Nat} {F G : Nat → Prop} {v : Value} {o : Option (List UInt8)} (h : PtAt w F v o) (k : Kp L w w') (hL : ∀ b ∈ L, ¬ F b) (hG : ∀ b, F b → G b) : PtAt w' G v o := by
  cases o with
  | none => exact h
  | some c =>
    obtain ⟨xb, q, cv, h1, h2, h3, h4, h5⟩ := h
    exact ⟨xb, q, cv, h1, hG _ h2, h3.kp k (fun hm => hL _ hm h2) (fun b hb hm => hL _ hm (h5 b hb)), h4, fun b hb => hG _ (h5 b hb)⟩
theorem PcAt.kp {w w' : World} {L : List Nat} {F G : Nat → Prop} {pb ab : Nat} {sum : List UInt8} {ps : List (Option (List UInt8))} (h : PcAt w F pb ab sum ps) (k : Kp L w w') (hL : ∀ b ∈ L, ¬ F b) (ha : ab ∉ L) (hG : ∀ b, F b → G b) : PcAt w' G pb ab sum ps := by
  obtain ⟨vals, h1, h2, h3⟩ := h.ha
  exact ⟨hG _ h.f1, k.heap h.hp (fun hm => hL _ hm h.f1), h.hs, h.hn, vals, k.heap h1 ha, h2, fun i v o hv ho => (h3 i v o hv ho).kp k hL hG⟩
theorem PcAt.kp0 {w w' : World} {F : Nat → Prop} {pb ab : Nat} {sum : List UInt8} {ps : List (Option (List UInt8))} (h : PcAt w F pb ab sum ps) (k : Kp [] w w') : PcAt w' F pb ab sum ps :=
  h.kp k (by simp) (by simp) (fun _ hb => hb)
/-- numbers as values -/
def nv (l : List Nat) : List Value := l.map fun n => Value.int .i64 ((n : Nat) : Int)
theorem nv_len (l : List Nat) : (nv l).length = l.length := by simp [nv]
/-- the places ahead of k that are empty -/
def missT (ps : List (Option (List UInt8))) (k : Nat) : List Nat := (List.range k).filter fun i => (ps.getD i none).isNone
def missL (ps : List (Option (List UInt8))) : List Nat := missT ps ps.length
theorem missT_len (ps : List (Option (List UInt8))) (k : Nat) : (missT ps k).length ≤ k := by
  unfold missT
  have := List.length_filter_le (fun i => (ps.getD i none).isNone) (List.range k)
  simpa using this
theorem missT_none {ps : List (Option (List UInt8))} {k : Nat} (h : ps[k]? = some none) : missT ps (k + 1) = missT ps k ++ [k] := by
  unfold missT
  rw [List.range_succ, List.filter_append]
  simp [List.getD, h]
theorem missT_some {ps : List (Option (List UInt8))} {k : Nat} {c : List UInt8} (h : ps[k]? = some (some c)) : missT ps (k + 1) = missT ps k := by
  unfold missT
  rw [List.range_succ, List.filter_append]
  simp [List.getD, h]
theorem el_int : El Tryd.prog 42 3 (.int .i64 0) 8 := ⟨Tryd.underlying42, by kernel_rfl, rfl⟩
set_option maxRecDepth 100000 in
set_option maxHeartbeats 1000000 in
theorem missing_any (F : Nat → Prop) (pb ab : Nat) (sum : List UInt8) (ps : List (Option (List UInt8))) (w : World) (h : PcAt w F pb ab sum ps) :
    Calls Tryd.prog 51 #[pv pb] w fun e w' => ∃ v, e = .returned v ∧ Own w' w.heap.size 3 v (nv (missL ps)) ∧ Kp [] w w' := by
  have hc0 : w.cell? ⟨pb, 8, none⟩ = some (.slice (some ⟨ab, 0, none⟩) ps.length ps.length) := by
    rw [cell_of_row w pb 8 _ _ _ h.hp]
    simp [bv_length, h.hs]
  obtain ⟨vals, ha, hvl, hv⟩ := h.ha
  have HA := Lib.hid ha
  have HVL := Lib.hid hvl
  have HV := Lib.hid hv
  have hn2 : ps.length ≤ 64 := h.hn.2
  clear ha hvl hv h
  unfold pv
  go_enter Tryd.func51, Tryd.ntmps51
  go_wp2_with fail
  go_loopw [3, 11] (fun v i wr => ∃ k : Nat, k ≤ ps.length ∧ i = .int .i64 k ∧ Hid (Own wr w.heap.size 3 v (nv (missT ps k)) ∧ Kp [] w wr)) (fun _ i _ => ps.length - (intOf i).toNat)
  case atStart => exact ⟨0, Nat.zero_le _, rfl, Lib.hid ⟨Own.nil _ _ _, Kp.refl _ _⟩⟩
  case round =>
    obtain ⟨k, hk, rfl, HR⟩ := hrel
    by_cases hlt : k < ps.length
    · obtain ⟨o, ho⟩ : ∃ o, ps[k]? = some o := ⟨_, List.getElem?_eq_getElem hlt⟩
      obtain ⟨x, hx⟩ : ∃ x, vals[k]? = some x := ⟨_, List.getElem?_eq_getElem (by rw [HVL.out]; exact hlt)⟩
      have hcx : wr.cell? ⟨ab, k, none⟩ = some x := by rw [cell_of_row wr ab k _ _ _ (HR.out.2.heap HA.out (by simp))]; simpa using hx
      have hpt := HV.out k x o hx ho
      cases o with
      | none =>
        obtain rfl : x = .pointer none := hpt
        have HM := Lib.hid (missT_none ho)
        have HML := Lib.hid (missT_len ps k)
        clear ho hx
        go_wp2_with (first
          | (at_builtin; (refine wpl_append el_int rfl _ _ rfl rfl rfl (HR.out.1.kp0 (by (repeat (first | exact Kp.refl _ _ | assumption | refine Kp.drewN ?_ _ | refine Kp.drew ?_ | refine Kp.alloc ?_ _ | refine Kp.trans0 ?_ (by assumption))))) (rd_lit1 _ _ _) (by simp [Value.oneCell']) (by rw [nv_len]; have := HML.out; simp; omega) (by rw [nv_len]; have := HML.out; simp; omega) (by have := HR.out.2.size; simp; omega) ?_; intro v1 w1 ho1 hg1; have HO1 := Lib.hid ho1; have HK1 : Hid (Kp [] w w1) := Lib.hid (((HR.out.2.alloc _)).grown hg1 (fun b hb => .inr (HR.out.1.lt hb).1)); clear ho1 hg1))
          | fail)
        go_roundw
        case rel => exact ⟨k + 1, by omega, by go_num, Lib.hid ⟨by rw [HM.out]; simpa [nv] using HO1.out, HK1.out⟩⟩
        case measure => simp [intOf]; omega
      | some c =>
        obtain ⟨xb, q, cv, rfl, _, _, _, _⟩ := hpt
        have HM := Lib.hid (missT_some ho)
        clear ho hx
        unfold pv at hcx
        go_wp2_with fail
        go_roundw
        case rel => exact ⟨k + 1, by omega, by go_num, by rw [HM.out]; exact HR⟩
        case measure => simp [intOf]; omega
    · have hke : k = ps.length := by omega
      subst hke
      go_wp2_with fail
      go_ret
      exact ⟨_, rfl, HR.out.1, HR.out.2⟩
end Go.Proofs.YtkceaepbjdfccaaDoor
