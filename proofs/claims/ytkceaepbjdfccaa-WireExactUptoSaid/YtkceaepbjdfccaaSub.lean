/-
What is read of a part of a slice; one equation a cut, its address behind a name.
-/
import Derived.Test.YtkceaepbjdfccaaBase
namespace Go.Proofs.Ytkceaepbjdfccaa
open Go.RowKit
theorem Rd.cut {w : World} {ao : Option Addr} {n cap : Nat} {xs : List Value} (h : Rd w (.slice ao n cap) xs) (l k : Nat) (h1 : l ≤ k) (h2 : k ≤ n) (s : Nat) (hs : s = 1) :
    Rd w (sliced ao l k cap s) ((xs.take k).drop l) := by
  subst hs
  obtain ⟨ao', cap', he, hc, hn, hx⟩ := h
  simp only [Value.slice.injEq] at he
  obtain ⟨rfl, rfl, rfl⟩ := he
  have hlen : ((xs.take k).drop l).length = k - l := by simp; omega
  refine ⟨if cap = l then ao else ao.map (·.add (l * 1)), cap - l, by unfold sliced; rw [hlen], by rw [hlen]; omega, fun hh => ?_, fun a ha i u hu => ?_⟩
  · split at hh
    · have := hn hh; omega
    · cases ao with
      | none => have := hn rfl; omega
      | some a => cases hh
  · have hi : i < k - l := by rw [← hlen]; exact (List.getElem?_eq_some_iff.1 hu).1
    rw [if_neg (by omega)] at ha
    cases ao with
    | none => cases ha
    | some b =>
      simp only [Option.map_some, Option.some.injEq, Nat.mul_one] at ha
      subst ha
      have hget : xs[l + i]? = some u := by
        rw [List.getElem?_drop, List.getElem?_take, if_pos (by omega)] at hu
        exact hu
      have hc2 := hx b rfl (l + i) u hget
      have e : (b.add l).add i = b.add (l + i) := by
        by_cases z : l + i = 0
        · have : l = 0 := by omega
          have : i = 0 := by omega
          subst l; subst i; rfl
        · have h0 := hx b rfl 0 _ (List.getElem?_eq_getElem (by omega))
          have hsp := cell_spot h0
          obtain ⟨bb, bo, sp⟩ := b
          have hsp' : sp = none := by simpa [Addr.add] using hsp
          subst hsp'
          rw [Addr.add_lit, Addr.add_lit, Addr.add_lit, Nat.add_assoc]
      rw [e]; exact hc2
theorem Rdd.of {w : World} {v : Value} {vals : List Value} {ls : List (List UInt8)} (h : Rd w v vals) (hl : vals.length = ls.length) (ha : ∀ (i : Nat) (x : Value) (l : List UInt8), vals[i]? = some x → ls[i]? = some l → Rd w x (bv l)) : Rdd w v ls := ⟨vals, h, hl, ha⟩
theorem Rdd.drew {w : World} {v : Value} {ls : List (List UInt8)} (h : Rdd w v ls) : Rdd w.drew v ls := h
theorem rdd_lit1 (w : World) (T : TypeId) (a : Value) (la : List UInt8) (ha : Rd w a (bv la)) :
    Rdd (w.alloc (.cells #[a] T)) (.slice (some ⟨w.heap.size, 0, none⟩) 1 1) [la] := by
  refine Rdd.of (rd_lit1 w T a) rfl ?_
  rintro (_ | i) x l hx hl
  · cases hx; cases hl; exact ha.kp0 ((Kp.refl [] w).alloc _)
  · cases hx
theorem rdd_lit2 (w : World) (T : TypeId) (a b : Value) (la lb : List UInt8) (ha : Rd w a (bv la)) (hb : Rd w b (bv lb)) :
    Rdd (w.alloc (.cells #[a, b] T)) (.slice (some ⟨w.heap.size, 0, none⟩) 2 2) [la, lb] := by
  refine Rdd.of (rd_lit2 w T a b) rfl ?_
  rintro (_ | _ | i) x l hx hl
  · cases hx; cases hl; exact ha.kp0 ((Kp.refl [] w).alloc _)
  · cases hx; cases hl; exact hb.kp0 ((Kp.refl [] w).alloc _)
  · cases hx
theorem rdd_lit3 (w : World) (T : TypeId) (a b c : Value) (la lb lc : List UInt8) (ha : Rd w a (bv la)) (hb : Rd w b (bv lb)) (hc : Rd w c (bv lc)) :
    Rdd (w.alloc (.cells #[a, b, c] T)) (.slice (some ⟨w.heap.size, 0, none⟩) 3 3) [la, lb, lc] := by
  refine Rdd.of (rd_lit3 w T a b c) rfl ?_
  rintro (_ | _ | _ | i) x l hx hl
  · cases hx; cases hl; exact ha.kp0 ((Kp.refl [] w).alloc _)
  · cases hx; cases hl; exact hb.kp0 ((Kp.refl [] w).alloc _)
  · cases hx; cases hl; exact hc.kp0 ((Kp.refl [] w).alloc _)
  · cases hx
theorem rdd_lit4 (w : World) (T : TypeId) (a b c d : Value) (la lb lc ld : List UInt8) (ha : Rd w a (bv la)) (hb : Rd w b (bv lb)) (hc : Rd w c (bv lc)) (hd : Rd w d (bv ld)) :
    Rdd (w.alloc (.cells #[a, b, c, d] T)) (.slice (some ⟨w.heap.size, 0, none⟩) 4 4) [la, lb, lc, ld] := by
  refine Rdd.of ((Own.lit w T #[a, b, c, d] (Nat.le_refl _) (by simp)).rd) rfl ?_
  rintro (_ | _ | _ | _ | i) x l hx hl
  · cases hx; cases hl; exact ha.kp0 ((Kp.refl [] w).alloc _)
  · cases hx; cases hl; exact hb.kp0 ((Kp.refl [] w).alloc _)
  · cases hx; cases hl; exact hc.kp0 ((Kp.refl [] w).alloc _)
  · cases hx; cases hl; exact hd.kp0 ((Kp.refl [] w).alloc _)
  · cases hx
theorem hp_new {w : World} {o : Obj} {k : Nat} (h : k = w.heap.size) : (w.alloc o).heap[k]? = some o := by subst h; exact heap_alloc_new w o
theorem hp_old {w : World} {o o' : Obj} {k : Nat} (h : k < w.heap.size) (h' : w.heap[k]? = some o') : (w.alloc o).heap[k]? = some o' := by rw [Below.heap_alloc w o k h]; exact h'
theorem hp_drew {w : World} {o' : Obj} {k : Nat} (h' : w.heap[k]? = some o') : w.drew.heap[k]? = some o' := h'
theorem hp_drewN {w : World} {o' : Obj} {k n : Nat} (h' : w.heap[k]? = some o') : (w.drewN n).heap[k]? = some o' := h'
theorem own_at {w : World} {b : Nat} {cs : Array Value} {T : TypeId} (h : w.heap[b]? = some (.cells cs T (0, 0))) (hs : cs.size ≤ 140737488355328) : Own w b T (.slice (some ⟨b, 0, none⟩) cs.size cs.size) cs.toList := by
  refine ⟨by simp, .inr ⟨b, cs.size, cs, by rw [Array.length_toList], Nat.le_refl _, h, by simp, by unfold maxLen; omega, by simp, by rw [Nat.mul_one]; exact List.take_of_length_le (by simp)⟩⟩
theorem rdd_at1 {w : World} {b : Nat} {T : TypeId} {x : Value} {lx : List UInt8} (h : w.heap[b]? = some (.cells #[x] T (0, 0))) (hx : Rd w x (bv lx)) : Rdd w (.slice (some ⟨b, 0, none⟩) 1 1) [lx] := by
  refine Rdd.of (own_at h (by simp)).rd rfl ?_
  rintro (_ | i) y l hy hl
  · cases hy; cases hl; exact hx
  · cases hy
theorem rdd_at2 {w : World} {b : Nat} {T : TypeId} {x y : Value} {lx ly : List UInt8} (h : w.heap[b]? = some (.cells #[x, y] T (0, 0))) (hx : Rd w x (bv lx)) (hy : Rd w y (bv ly)) : Rdd w (.slice (some ⟨b, 0, none⟩) 2 2) [lx, ly] := by
  refine Rdd.of (own_at h (by simp)).rd rfl ?_
  rintro (_ | _ | i) z l hz hl
  · cases hz; cases hl; exact hx
  · cases hz; cases hl; exact hy
  · cases hz
section
variable {P : Program} {t e : TypeId} {z : Value} {bytes : Nat}
theorem El.szof (E : El P t e z bytes) (W : World) : (sizeOf e).run P W = .ok 1 W := by
  obtain ⟨i, hi, hz0, hz1, hz2⟩ := info_parts E.hi
  simp [sizeOf, typeInfo, hi, hz1]
theorem El.elem (E : El P t e z bytes) : P.elem t = e := by
  have := E.ht
  simp [Program.elem, this]
theorem run_sub_h (E : El P t e z bytes) (ht : P.underlying t = some (.slice e)) {ao : Option Addr} {n cap : Nat} {xs : List Value} {w : World} (h : Rd w (.slice ao n cap) xs) (J : Int) (h0 : 0 ≤ J) (h1 : J ≤ n) :
    ∃ ao' n' cap', (∀ W, (Instr.sliceAt t (.slice ao n cap) none (some (.int .i64 J)) none).run P W = .ok (.slice ao' n' cap') W) ∧ Rd w (.slice ao' n' cap') (xs.take J.toNat) := by
  have hcap : n ≤ cap := by obtain ⟨_, _, he, hc, _⟩ := h; simp only [Value.slice.injEq] at he; omega
  have hr := h.cut 0 J.toNat (by omega) (by omega) 1 rfl
  refine ⟨_, _, _, fun W => ?_, by rw [List.drop_zero] at hr; exact hr⟩
  have ht' : P.underlying t = some (.slice (P.elem t)) := by rw [E.elem]; exact ht
  rw [run_sliceAt_slice W t _ _ _ _ ht', run_slice_h W t ao n cap ht' .i64 J h0 (by omega), E.elem, E.szof]
  rfl
theorem run_sub_lh (E : El P t e z bytes) (ht : P.underlying t = some (.slice e)) {ao : Option Addr} {n cap : Nat} {xs : List Value} {w : World} (h : Rd w (.slice ao n cap) xs) (I J : Int) (h0 : 0 ≤ I) (hij : I ≤ J) (h1 : J ≤ n) :
    ∃ ao' n' cap', (∀ W, (Instr.sliceAt t (.slice ao n cap) (some (.int .i64 I)) (some (.int .i64 J)) none).run P W = .ok (.slice ao' n' cap') W) ∧ Rd w (.slice ao' n' cap') ((xs.take J.toNat).drop I.toNat) := by
  have hcap : n ≤ cap := by obtain ⟨_, _, he, hc, _⟩ := h; simp only [Value.slice.injEq] at he; omega
  have hr := h.cut I.toNat J.toNat (by omega) (by omega) 1 rfl
  refine ⟨_, _, _, fun W => ?_, hr⟩
  have ht' : P.underlying t = some (.slice (P.elem t)) := by rw [E.elem]; exact ht
  rw [run_sliceAt_slice W t _ _ _ _ ht', run_slice_lh W t ao n cap ht' .i64 .i64 I J h0 hij (by omega), E.elem, E.szof]
  rfl
theorem run_sub_l (E : El P t e z bytes) (ht : P.underlying t = some (.slice e)) {ao : Option Addr} {n cap : Nat} {xs : List Value} {w : World} (h : Rd w (.slice ao n cap) xs) (I : Int) (h0 : 0 ≤ I) (h1 : I ≤ n) :
    ∃ ao' n' cap', (∀ W, (Instr.sliceAt t (.slice ao n cap) (some (.int .i64 I)) none none).run P W = .ok (.slice ao' n' cap') W) ∧ Rd w (.slice ao' n' cap') (xs.drop I.toNat) := by
  have hn := h.len
  have hcap : n ≤ cap := by obtain ⟨_, _, he, hc, _⟩ := h; simp only [Value.slice.injEq] at he; omega
  have hr := h.cut I.toNat n (by omega) (by omega) 1 rfl
  rw [List.take_of_length_le (by omega)] at hr
  refine ⟨_, _, _, fun W => ?_, hr⟩
  have ht' : P.underlying t = some (.slice (P.elem t)) := by rw [E.elem]; exact ht
  rw [run_sliceAt_slice W t _ _ _ _ ht', run_slice_l W t ao n cap ht' .i64 I h0 (by omega), E.elem, E.szof]
  rfl
theorem run_subb_h (E : El P t e z bytes) {ao : Option Addr} {n cap : Nat} {l : List UInt8} {w : World} (h : Rd w (.slice ao n cap) (bv l)) (J : Int) (h0 : 0 ≤ J) (h1 : J ≤ n) :
    ∃ ao' n' cap', (∀ W, (Instr.sliceAt t (.slice ao n cap) none (some (.int .i64 J)) none).run P W = .ok (.slice ao' n' cap') W) ∧ Rd w (.slice ao' n' cap') (bv (l.take J.toNat)) := by
  have := run_sub_h E E.ht h J h0 h1
  unfold bv at this ⊢; rw [List.map_take]; exact this
theorem run_subb_lh (E : El P t e z bytes) {ao : Option Addr} {n cap : Nat} {l : List UInt8} {w : World} (h : Rd w (.slice ao n cap) (bv l)) (I J : Int) (h0 : 0 ≤ I) (hij : I ≤ J) (h1 : J ≤ n) :
    ∃ ao' n' cap', (∀ W, (Instr.sliceAt t (.slice ao n cap) (some (.int .i64 I)) (some (.int .i64 J)) none).run P W = .ok (.slice ao' n' cap') W) ∧ Rd w (.slice ao' n' cap') (bv ((l.take J.toNat).drop I.toNat)) := by
  have := run_sub_lh E E.ht h I J h0 hij h1
  unfold bv at this ⊢; rw [List.map_drop, List.map_take]; exact this
theorem run_subb_l (E : El P t e z bytes) {ao : Option Addr} {n cap : Nat} {l : List UInt8} {w : World} (h : Rd w (.slice ao n cap) (bv l)) (I : Int) (h0 : 0 ≤ I) (h1 : I ≤ n) :
    ∃ ao' n' cap', (∀ W, (Instr.sliceAt t (.slice ao n cap) (some (.int .i64 I)) none none).run P W = .ok (.slice ao' n' cap') W) ∧ Rd w (.slice ao' n' cap') (bv (l.drop I.toNat)) := by
  have := run_sub_l E E.ht h I h0 h1
  unfold bv at this ⊢; rw [List.map_drop]; exact this
end
end Go.Proofs.Ytkceaepbjdfccaa
