/-
The plain steps of 'ParcelHands'; slices of bytes that are written over; sameParts.
-/
import Derived.Test.YtkceaepbjdfccaaDoorPar20
import Derived.Test.YtkceaepbjdfccaaDoorLawA0
namespace Go.Proofs.YtkceaepbjdfccaaDoor
open Go.RowKit
theorem addE_more {mk : List UInt8 → List UInt8} {m1 m2 : Int} (h : m1 ≤ m2) {T : List Ent} {p b : List UInt8} {r : (Int × Bool × Int) × List Ent} (h1 : addE mk m1 T p b = r) (hne : r.1.2.2 ≠ 120) : addE mk m2 T p b = r := by
  subst h1
  revert hne
  unfold addE
  by_cases hp : peerErr p.length ≠ 0
  · rw [if_pos hp, if_pos hp]; intro _; rfl
  · rw [if_neg hp, if_neg hp]
    cases hr : readL b with
    | none => intro _; rfl
    | some q =>
      simp only
      cases hf : findE T (p, q.id) with
      | some e => intro _; rfl
      | none =>
        simp only
        by_cases hm : m1 ≤ T.length
        · rw [if_pos hm]; intro h; exact absurd rfl h
        · rw [if_neg hm, if_neg (show ¬ m2 ≤ (T.length : Int) by omega)]; intro _; rfl
theorem missL_range (l : List UInt8) {n k : Nat} (hk : k ≤ n) : missL (psOf l n (List.range' k (n - k))) = List.range' k (n - k) := by
  unfold missL missT
  rw [psOf_len]
  have h1 : ∀ i, i < n → ((psOf l n (List.range' k (n - k))).getD i none).isNone = decide (k ≤ i) := fun i hi => by
    rw [List.getD, psOf_get l _ hi]
    by_cases hki : k ≤ i
    · rw [if_pos (by rw [List.mem_range'_1]; omega)]; simp [hki]
    · rw [if_neg (by rw [List.mem_range'_1]; omega)]; simp [hki]
  have h2 : (List.range n).filter (fun i => ((psOf l n (List.range' k (n - k))).getD i none).isNone) = (List.range n).filter (fun i => decide (k ≤ i)) := List.filter_congr (fun i hi => h1 i (List.mem_range.1 hi))
  rw [h2, List.range_eq_range', show List.range' 0 n = List.range' 0 k ++ List.range' k (n - k) by have e := List.range'_append_1 (s := 0) (m := k) (n := n - k); rw [Nat.zero_add, Nat.add_sub_cancel' hk] at e; exact e.symm, List.filter_append]
  rw [List.filter_eq_nil_iff.2 (by intro i hi; rw [List.mem_range'_1] at hi; simp; omega), List.filter_eq_self.2 (by intro i hi; rw [List.mem_range'_1] at hi; simp; omega), List.nil_append]
def peerX : List UInt8 := [120]
theorem peerX_ok : peerErr peerX.length = 0 := rfl
theorem peerX_len : peerX.length ≤ 140737488351232 := by show 1 ≤ _; omega
/-- the tray when k parts are in -/
def TH (mk : List UInt8 → List UInt8) (id : Int) (l : List UInt8) (k : Nat) : List Ent := Tof mk id l peerX (List.range' k (cntP l.length - k))
section
variable {mk : List UInt8 → List UInt8} (hm : ∀ l, (mk l).length = 8) {id : Int} (h0 : 0 ≤ id) (h1 : id < 4294967296) {l : List UInt8} (hl : l.length ≤ 31808)
theorem th0 : TH mk id l 0 = [] := by
  unfold TH Tof
  rw [if_pos]
  rw [List.range_eq_range']; rfl
include hm h0 h1 hl in
theorem th_add {k : Nat} (hk : k < cntP l.length) : addE mk 2 (TH mk id l k) peerX (partM mk id l k) = ((id, decide (cntP l.length - (k + 1) = 0), 0), TH mk id l (k + 1)) := by
  have hg : (List.range' k (cntP l.length - k))[0]? = some k := by rw [List.getElem?_range' (by omega)]; simp
  have he : (List.range' k (cntP l.length - k)).eraseIdx 0 = List.range' (k + 1) (cntP l.length - (k + 1)) := by
    rw [show cntP l.length - k = (cntP l.length - (k + 1)) + 1 by omega, List.range'_succ]; rfl
  have := add_step hm h0 h1 hl peerX_ok (left := List.range' k (cntP l.length - k)) List.nodup_range' (fun i hi => by rw [List.mem_range'_1] at hi; omega) hg
  rw [he] at this
  refine addE_more (m1 := 1) (by omega) ?_ (show (0 : Int) ≠ 120 by decide)
  rw [List.length_range'] at this
  exact this
theorem th_miss {k : Nat} (hk : k < cntP l.length) : missP (TH mk id l (k + 1)) (peerX, id) = (List.range' (k + 1) (cntP l.length - (k + 1)), 0) := by
  unfold TH
  rw [miss_step peerX_ok, missL_range l (by omega)]
  intro e
  have := congrArg List.length e
  rw [List.length_range', List.length_range] at this
  omega
include hl in
theorem th_take : takeP (TH mk id l (cntP l.length)) (peerX, id) = ((l, 0), []) := by
  unfold TH
  rw [Nat.sub_self]
  exact take_all hl peerX_ok
end
/-! slices that are written over -/
theorem lo8_val (n : Int) : Value.int .u8 (n % 256) = bval (lo8 n) := (bval_lo8 n).symm
/-- a cell of a slice of one's own, to be written -/
theorem Own.slotV {w : World} {B n c : Nat} {e : TypeId} {a : Option Addr} {xs : List Value} (h : Own w B e (.slice a n c) xs) {k : Nat} (hk : k < xs.length) :
    ∃ g, a = some ⟨g, 0, none⟩ ∧ w.cell? ⟨g, k, none⟩ = some xs[k] ∧ w.frozen? ⟨g, k, none⟩ = false ∧ B ≤ g ∧ g < w.heap.size ∧ ∀ u : Value, Own (w.setCell ⟨g, k, none⟩ u) B e (.slice a n c) (xs.set k u) := by
  have hn := h.rd.len
  rcases h.2 with ⟨h1, h2⟩ | ⟨g, cap, cur, hv, hb, hg, h1, h2, h3, h4⟩
  · omega
  · simp only [Value.slice.injEq] at hv
    obtain ⟨rfl, _, rfl⟩ := hv
    have hc : w.cell? ⟨g, k, none⟩ = some xs[k] := by
      obtain ⟨b, off, ha, hx, hcc⟩ := h.rd.at (k := k) (by omega)
      simp only [Option.some.injEq, Addr.mk.injEq] at ha
      obtain ⟨rfl, rfl, _⟩ := ha
      rw [Nat.zero_add] at hcc
      exact hcc
    refine ⟨g, rfl, hc, frozen_of_row w g k _ _ hg, hb, (Array.getElem?_eq_some_iff.1 hg).1, fun u => ⟨by simp, .inr ⟨g, c, cur.setIfInBounds k u, by rw [List.length_set]; simp [hn], hb, heap_setCell_same w g k _ _ _ hg, by rw [List.length_set, ← hn]; rw [← hn] at h1; exact h1, h2, by simpa using h3, ?_⟩⟩⟩
    rw [List.length_set, Array.toList_setIfInBounds, List.take_set, h4]
/-- a byte of a cut slice, to be written -/
theorem Cut.slot {w : World} {B n c : Nat} {a : Option Addr} {l : List UInt8} (h : Cut w B (.slice a n c) l) {k : Nat} (hk : k < l.length) :
    ∃ g, a = some ⟨g, 0, none⟩ ∧ w.cell? ⟨g, k, none⟩ = some (.int .u8 (l[k].toNat : Int)) ∧ w.frozen? ⟨g, k, none⟩ = false ∧ B ≤ g ∧ g < w.heap.size ∧ ∀ u : UInt8, Cut (w.setCell ⟨g, k, none⟩ (bval u)) B (.slice a n c) (l.set k u) := by
  have hrd := h.rd
  rcases h with ⟨_, h2⟩ | ⟨g, cur, hv, hb, hg, h1, h4⟩
  · subst h2; simp at hk
  · simp only [Value.slice.injEq] at hv
    obtain ⟨rfl, rfl, rfl⟩ := hv
    have hc : w.cell? ⟨g, k, none⟩ = some (.int .u8 (l[k].toNat : Int)) := by
      obtain ⟨b, off, ha, hx, hcc⟩ := hrd.byte (k := k) (by omega)
      simp only [Option.some.injEq, Addr.mk.injEq] at ha
      obtain ⟨rfl, rfl, _⟩ := ha
      rw [Nat.zero_add] at hcc
      exact hcc
    refine ⟨g, rfl, hc, frozen_of_row w g k _ _ hg, hb, (Array.getElem?_eq_some_iff.1 hg).1, fun u => .inr ⟨g, cur.setIfInBounds k (bval u), by rw [List.length_set], hb, heap_setCell_same w g k _ _ _ hg, by rw [List.length_set]; simpa using h1, ?_⟩⟩
    rw [List.length_set, Array.toList_setIfInBounds, List.take_set, h4]
    simp [bv, List.map_set]
/-- slices of their own, apart, with no spare room, in blocks below U -/
def PtsU (w : World) (B U : Nat) (v : Value) (ls : List (List UInt8)) : Prop :=
  ∃ vals : List Value, Own w B 27 v vals ∧ vals.length = ls.length ∧
    (∀ (j : Nat) (x : Value) (p : List UInt8), vals[j]? = some x → ls[j]? = some p → Own w B 5 x (bv p) ∧ ∃ g, x = .slice (some ⟨g, 0, none⟩) p.length p.length ∧ g < U) ∧
    ∀ (i j : Nat) (x y : Value) (b : Nat), vals[i]? = some x → vals[j]? = some y → x.ownBlock = some b → y.ownBlock = some b → i = j
theorem PtsD.u {w : World} {B : Nat} {v : Value} {ls : List (List UInt8)} (h : PtsD w B v ls) : PtsU w B w.heap.size v ls := by
  obtain ⟨vals, h1, h2, h3, h4⟩ := h
  refine ⟨vals, h1, h2, fun j x p hx hp => ?_, h4⟩
  obtain ⟨h5, g, rfl⟩ := h3 j x p hx hp
  exact ⟨h5, g, rfl, (h5.lt rfl).2⟩
theorem PtsU.kp {w w' : World} {B U : Nat} {v : Value} {ls : List (List UInt8)} (h : PtsU w B U v ls) (k : Kp [] w w') : PtsU w' B U v ls := by
  obtain ⟨vals, h1, h2, h3, h4⟩ := h
  exact ⟨vals, h1.kp0 k, h2, fun j x p hx hp => ⟨(h3 j x p hx hp).1.kp0 k, (h3 j x p hx hp).2⟩, h4⟩
theorem PtsU.pts {w : World} {B U : Nat} {v : Value} {ls : List (List UInt8)} (h : PtsU w B U v ls) : Pts w B v ls := by
  obtain ⟨vals, h1, h2, h3, _⟩ := h
  exact ⟨vals, h1, h2, fun j x p hx hp => ⟨(h3 j x p hx hp).1, by obtain ⟨_, g, rfl, _⟩ := h3 j x p hx hp; rfl⟩⟩
theorem PtsU.at {w : World} {B U n c : Nat} {a : Option Addr} {ls : List (List UInt8)} (h : PtsU w B U (.slice a n c) ls) {k : Nat} {p : List UInt8} (hk : ls[k]? = some p) :
    ∃ g gx, a = some ⟨g, 0, none⟩ ∧ w.cell? ⟨g, k, none⟩ = some (.slice (some ⟨gx, 0, none⟩) p.length p.length) ∧ B ≤ gx ∧ gx < U ∧ gx < w.heap.size ∧ Rd w (.slice (some ⟨gx, 0, none⟩) p.length p.length) (bv p) ∧
      ∀ i, i < p.length → (∃ x, w.cell? ⟨gx, i, none⟩ = some (.int .u8 x)) ∧ w.frozen? ⟨gx, i, none⟩ = false ∧ ∀ u : UInt8, PtsU (w.setCell ⟨gx, i, none⟩ (bval u)) B U (.slice a n c) (ls.set k (p.set i u)) := by
  obtain ⟨vals, h1, h2, h3, h4⟩ := h
  have hlt := (List.getElem?_eq_some_iff.1 hk).1
  have hv : vals[k]? = some vals[k] := List.getElem?_eq_getElem (by omega)
  obtain ⟨ho, gx, hx, hU⟩ := h3 k _ p hv hk
  rw [hx] at hv ho
  obtain ⟨g, ha, hc, _, _, _, _⟩ := h1.slotV (k := k) (by omega)
  rw [hx] at hc
  obtain ⟨hB1, hB2⟩ := ho.lt rfl
  refine ⟨g, gx, ha, hc, hB1, hU, hB2, ho.rd, fun i hi => ?_⟩
  obtain ⟨g', hg', hc', hf', _, _, hset⟩ := ho.slot hi
  simp only [Option.some.injEq, Addr.mk.injEq, and_true] at hg'
  subst hg'
  refine ⟨⟨_, hc'⟩, hf', fun u => ?_⟩
  have hkp : Kp [gx] w (w.setCell ⟨gx, i, none⟩ (bval u)) := (Kp.refl [gx] w).setCell (.inl (by simp)) _
  obtain ⟨cur, hcur⟩ := ho.block rfl
  refine ⟨vals, h1.kp hkp (fun b hb hm => ?_), by rw [List.length_set, h2], fun j x q hxj hqj => ?_, h4⟩
  · rw [List.mem_singleton] at hm
    subst hm
    exact h1.not_at hcur (by decide) hb
  · by_cases hj : k = j
    · subst hj
      rw [hv] at hxj
      cases hxj
      rw [List.getElem?_set_self hlt] at hqj
      cases hqj
      rw [List.length_set]
      exact ⟨hset u, gx, rfl, hU⟩
    · rw [List.getElem?_set_ne hj] at hqj
      obtain ⟨h5, g5, rfl, h6⟩ := h3 j x q hxj hqj
      refine ⟨h5.kp hkp (fun b hb hm => ?_), g5, rfl, h6⟩
      rw [List.mem_singleton] at hm
      subst hm
      exact hj (h4 k j _ _ b hv hxj rfl hb)
theorem Pts.kpB {w w' : World} {B : Nat} {L : List Nat} {v : Value} {ls : List (List UInt8)} (h : Pts w B v ls) (k : Kp L w w') (hL : ∀ b ∈ L, b < B) : Pts w' B v ls := by
  obtain ⟨vals, h1, h2, h3⟩ := h
  exact ⟨vals, h1.kp k (fun b hb hm => by have := (h1.lt hb).1; have := hL b hm; omega), h2, fun j x p hx hp => ⟨(h3 j x p hx hp).1.kp k (fun b hb hm => by have := ((h3 j x p hx hp).1.lt hb).1; have := hL b hm; omega), (h3 j x p hx hp).2⟩⟩
theorem Pts.rdd {w : World} {B : Nat} {v : Value} {ls : List (List UInt8)} (h : Pts w B v ls) : Rdd w v ls := by
  obtain ⟨vals, h1, h2, h3⟩ := h
  exact Rdd.of h1.rd h2 (fun i x l hx hl => (h3 i x l hx hl).1.rd)
theorem Pts.shapeN {W : World} {B : Nat} {v : Value} {ls : List (List UInt8)} (h : Pts W B v ls) (hne : ls ≠ []) : ∃ g c, v = .slice (some ⟨g, 0, none⟩) ls.length c ∧ Pq W (fun _ => False) g ls ∧ Rdd W (.slice (some ⟨g, 0, none⟩) ls.length c) ls := by
  obtain ⟨g, c, rfl, h2⟩ := h.shape hne
  exact ⟨g, c, rfl, h2 W _ (Kp.refl [] W) (fun b hb => hb.elim), h.rdd⟩
theorem over_step (p : List UInt8) (c : UInt8) {i : Nat} (hi : i < p.length) : (List.replicate i c ++ p.drop i).set i c = List.replicate (i + 1) c ++ p.drop (i + 1) := by
  rw [List.set_append_right _ _ (by simp), List.length_replicate, Nat.sub_self, List.drop_eq_getElem_cons hi, List.set_cons_zero, List.replicate_succ']
  simp
section
variable {P : Program} {w : World} {ops : Array Oper} {rest : List Oper} {o : Oper} {a : Act} {Q : Exit → Act → World → Prop} {K : Act → World → Prop} {t e : TypeId} {z : Value} {bytes : Nat}
/-- append onto a slice without spare room -/
theorem run_app_full (E : El P t e z bytes) (ty : TypeId) {ao : Option Addr} {n : Nat} {src : Value} {xs news : List Value} (h : Rd w (.slice ao n n) xs) (hsrc : Rd w src news) (hnn : 0 < news.length)
    (hl : xs.length + news.length ≤ 140737488355328) (hb : (xs.length + news.length) * bytes ≤ 140737488355328) (hne : ao ≠ none) :
    ∃ v' w', (Builtin.append_ #[t, t] ty #[.slice ao n n, src]).run P w = .ok v' w' ∧ Own w' w.heap.size e v' (xs ++ news) ∧ w.grownBy w' none := by
  obtain ⟨i, hi, hz0, hz1, hz2⟩ := info_parts E.hi
  have hlen := h.len
  obtain ⟨ao', cap', rfl, hc1, hc2, hc3⟩ := hsrc
  obtain ⟨a0, c0, he, _, _, h3⟩ := h
  simp only [Value.slice.injEq] at he
  obtain ⟨rfl, _, rfl⟩ := he
  cases ao' with
  | none => have := hc2 rfl; omega
  | some ad =>
    cases ao with
    | none => exact absurd rfl hne
    | some ax =>
      obtain ⟨v', w', hrun, r1, r2⟩ := run_append_arg_grows (P := P) w t ty e i z 1 bytes E.ht hi hz0 hz1 hz2 E.hz (by omega) ax n n xs (by simp [hlen]) (h3 _ rfl) ad news.length cap' news (by simp) (hc3 ad rfl) (by omega) (by unfold maxLen; omega) (by rw [hlen]; exact hb)
      have r1' : Own w' w.heap.size e v' (xs ++ news) := by unfold Own; rw [List.length_append, ← hlen]; exact r1
      exact ⟨v', w', hrun, r1', ⟨r2.os, r2.tape, r2.output, r2.size, fun k hk _ => r2.block k hk (by simp)⟩⟩
theorem wpl_append_full (E : El P t e z bytes) (hg : o.guard = none) (s x : Operand) (hop : o.op = Op.call { callee := Callee.builtin Builtin.append, args := #[s, x], argTypes := #[t, t] })
    {ao : Option Addr} {n : Nat} {src : Value} {xs news : List Value} (hs : a.eval s = .slice ao n n) (hx : a.eval x = src) (h : Rd w (.slice ao n n) xs) (hsrc : Rd w src news) (hnn : 0 < news.length)
    (hl : xs.length + news.length ≤ 140737488355328) (hb : (xs.length + news.length) * bytes ≤ 140737488355328) (hne : ao ≠ none)
    (hK : ∀ v' w', Own w' w.heap.size e v' (xs ++ news) → w.grownBy w' none → wpList P ops Q rest (a.put o.dst v') w') : wpList P ops Q (o :: rest) a w :=
  wpList_plain hg fun _ hK' => by
    obtain ⟨v', w', hr, h2, h3⟩ := run_app_full (P := P) E o.type h hsrc hnn hl hb hne
    unfold Oper.wp
    simp [execOp, hop, resolve, invoke, builtin, hs, hx, hr, Result.andThen]
    exact hK' _ _ (hK v' w' h2 h3)
end
set_option maxRecDepth 100000 in
theorem same_any (va vb : Value) (ls : List (List UInt8)) (w : World) (ha : Rdd w va ls) (hb : Rdd w vb ls) (hl : ls.length ≤ 100000) :
    Calls Tryd.prog 24 #[va, vb] w fun e w' => e = .returned (.bool true) ∧ Kp [] w w' := by
  obtain ⟨aa, ca, rfl⟩ := ha.form
  obtain ⟨ab, cb, rfl⟩ := hb.form
  have HA := Lib.hid ha
  have HB := Lib.hid hb
  obtain ⟨m, hm⟩ : ∃ m, ls.length = m := ⟨_, rfl⟩
  have HM := Lib.hid hm
  rw [hm] at HA HB hl ⊢
  clear ha hb hm
  go_enter Tryd.func24, Tryd.ntmps24
  go_wp2_with fail
  go_loopw [5] (fun i wr => ∃ k : Nat, k ≤ m ∧ i = .int .i64 k ∧ Hid (Kp [] w wr)) (fun i _ => m - (intOf i).toNat)
  case atStart => exact ⟨0, Nat.zero_le _, rfl, Lib.hid (Kp.refl [] w)⟩
  case round =>
    obtain ⟨k, hk, rfl, HR⟩ := hrel
    by_cases hlt : k < m
    · have hkl : k < ls.length := by rw [HM.out]; exact hlt
      obtain ⟨b1, o1, rfl, a1, c1, hc1, hr1⟩ := (HA.out.kp0 HR.out).at hkl
      obtain ⟨b2, o2, rfl, a2, c2, hc2, hr2⟩ := (HB.out.kp0 HR.out).at hkl
      have hd1 : ∀ n, (wr.drewN n).cell? ⟨b1, o1 + k, none⟩ = some (.slice a1 ls[k].length c1) := fun n => hc1
      have hd2 : ∀ n, (wr.drewN n).cell? ⟨b2, o2 + k, none⟩ = some (.slice a2 ls[k].length c2) := fun n => hc2
      have hv1 : ∀ n, (convert 27 9 (.slice a1 ls[k].length c1)).run Tryd.prog (wr.drewN n) = .ok (.string (strOf ls[k])) (wr.drewN n) := fun n => run_str Tryd.underlying27 Tryd.underlying5 Tryd.underlying9 (hr1.kp0 ((Kp.refl [] wr).drewN n))
      have hv2 : ∀ n, (convert 27 9 (.slice a2 ls[k].length c2)).run Tryd.prog (wr.drewN n) = .ok (.string (strOf ls[k])) (wr.drewN n) := fun n => run_str Tryd.underlying27 Tryd.underlying5 Tryd.underlying9 (hr2.kp0 ((Kp.refl [] wr).drewN n))
      clear hc1 hc2 hr1 hr2
      generalize ls[k].length = pl at *
      generalize strOf ls[k] = sz at *
      have hbq : (sz.toList == sz.toList) = true := by simp
      go_wp2_with fail
      go_quiet (fail)
      go_wp2_with fail
      go_roundw
      case rel => exact ⟨k + 1, by omega, by go_num, Lib.hid (HR.out.drewN nq)⟩
      case measure => simp [intOf]; omega
    · have hkm : k = m := by omega
      subst hkm
      go_wp2_with fail
      go_ret
      exact ⟨rfl, HR.out⟩
end Go.Proofs.YtkceaepbjdfccaaDoor
