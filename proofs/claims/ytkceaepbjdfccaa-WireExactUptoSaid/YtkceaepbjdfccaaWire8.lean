/-
What a writer's U8, U16, U32, Fixed, Run and Out come to.
-/
import Derived.Test.YtkceaepbjdfccaaWire7
namespace Go.Proofs.Ytkceaepbjdfccaa
open Go.RowKit
/-- the lowest byte of a number -/
def lo8 (x : Int) : UInt8 := UInt8.ofNat (x % 256).toNat
theorem bval_lo8 (x : Int) : bval (lo8 x) = .int .u8 (x % 256) := by unfold lo8; exact u8_ofInt _ (Int.emod_nonneg _ (by decide)) (Int.emod_lt_of_pos _ (by decide))
def be16 (n : Int) : List UInt8 := [lo8 (n / 256), lo8 n]
def be32 (n : Int) : List UInt8 := [lo8 (n / 16777216), lo8 (n / 65536), lo8 (n / 256), lo8 n]
/-- behind a call of a writer: its bytes and fault are s'; nothing else that was has turned -/
def Put (B p : Nat) (most : Int) (ov : Value) (s' : List UInt8 × Int) (w : World) (r : Ending) (w' : World) : Prop :=
  ∃ ov', r = .returned (.tuple #[]) ∧ Wr w' B p most ov' s' ∧ Kp (p :: ob ov) w w' ∧ ∀ b ∈ ob ov', b ∈ ob ov ∨ w.heap.size ≤ b
theorem Put.later {B p : Nat} {most : Int} {ov : Value} {s' : List UInt8 × Int} {w w1 : World} (k : Kp [] w w1) {r : Ending} {w' : World} (h : Put B p most ov s' w1 r w') : Put B p most ov s' w r w' := by
  obtain ⟨ov', h1, h2, h3, h4⟩ := h
  exact ⟨ov', h1, h2, (k.mono (by simp)).trans h3 (fun m hm => .inl hm), fun b hb => (h4 b hb).imp id (fun h => Nat.le_trans k.size h)⟩
theorem rdS {L : List Nat} {w : World} {b : Nat} {cs : Array Value} {T : TypeId} (h : w.heap[b]? = some (.cells cs T (0, 0))) (hb : b ∉ L) (hs : cs.size ≤ 140737488355328) :
    ∀ w', Kp L w w' → Rd w' (.slice (some ⟨b, 0, none⟩) cs.size cs.size) cs.toList := fun _ k => (own_at (k.heap h hb) hs).rd
theorem parts1 {L : List Nat} {w : World} {b : Nat} {T : TypeId} {x : Value} {l : List UInt8} (h : w.heap[b]? = some (.cells #[x] T (0, 0))) (hb : b ∉ L) (hx : ∀ w', Kp L w w' → Rd w' x (bv l)) :
    Parts L w (.slice (some ⟨b, 0, none⟩) 1 1) [l] := fun w' k => rdd_at1 (k.heap h hb) (hx w' k)
theorem parts2 {L : List Nat} {w : World} {b : Nat} {T : TypeId} {x y : Value} {l m : List UInt8} (h : w.heap[b]? = some (.cells #[x, y] T (0, 0))) (hb : b ∉ L) (hx : ∀ w', Kp L w w' → Rd w' x (bv l)) (hy : ∀ w', Kp L w w' → Rd w' y (bv m)) :
    Parts L w (.slice (some ⟨b, 0, none⟩) 2 2) [l, m] := fun w' k => rdd_at2 (k.heap h hb) (hx w' k) (hy w' k)
theorem Wr.lt {w : World} {B p : Nat} {most : Int} {ov : Value} {s : List UInt8 × Int} (h : Wr w B p most ov s) {b : Nat} (hb : w.heap.size ≤ b) : b ∉ p :: ob ov := by
  intro hm
  rcases List.mem_cons.1 hm with rfl | hm
  · have := (Array.getElem?_eq_some_iff.1 h.hp).1; omega
  · have := (h.own.lt (mem_ob.1 hm)).2; omega

/-- put of one part that was just built -/
theorem put_lit1 (B p : Nat) (most : Int) (ov : Value) (s : List UInt8 × Int) (e : Int) (w : World) (hW : Wr w B p most ov s) (hB : B ≤ w.heap.size) (cs : Array Value) (n : Nat) (l : List UInt8) (hn : cs.size = n) (hcs : cs.toList = bv l) (hl : l.length ≤ 1000) :
    Calls Try.prog 53 #[.pointer (some ⟨p, 0, none⟩), .int .i64 e, .slice (some ⟨w.heap.size + 1, 0, none⟩) 1 1]
      ((w.alloc (.cells cs 5)).alloc (.cells #[.slice (some ⟨w.heap.size, 0, none⟩) n n] 22)) (Put B p most ov (putL most s e l) w) := by
  subst hn
  have hlen : cs.size = l.length := by rw [← Array.length_toList, hcs, bv_length]
  have k : Kp [] w ((w.alloc (.cells cs 5)).alloc (.cells #[.slice (some ⟨w.heap.size, 0, none⟩) cs.size cs.size] 22)) := ((Kp.refl [] w).alloc _).alloc _
  have h := put_any B p most ov s e _ [l] _ (hW.kp0 k) (by simp; omega)
    (parts1 (b := w.heap.size + 1) (x := .slice (some ⟨w.heap.size, 0, none⟩) cs.size cs.size) (T := 22) (by (repeat (first | (with_reducible refine hp_drew ?_) | (with_reducible refine hp_drewN ?_) | ((with_reducible refine hp_new ?_); (simp; done)) | ((with_reducible refine hp_old ?_ ?_); focus (first | (simp; done) | (simp; omega))) | refine Kp.heap (by assumption) ?_ (by simp) | assumption))) (hW.lt (by omega))
      (by have h := rdS (L := p :: ob ov) (w := (w.alloc (.cells cs 5)).alloc (.cells #[.slice (some ⟨w.heap.size, 0, none⟩) cs.size cs.size] 22)) (b := w.heap.size) (cs := cs) (T := 5) (by (repeat (first | (with_reducible refine hp_drew ?_) | (with_reducible refine hp_drewN ?_) | ((with_reducible refine hp_new ?_); (simp; done)) | ((with_reducible refine hp_old ?_ ?_); focus (first | (simp; done) | (simp; omega))) | refine Kp.heap (by assumption) ?_ (by simp) | assumption))) (hW.lt (Nat.le_refl _)) (by omega)
          rw [hcs] at h; exact h))
    (by unfold flen; simp; omega) (by simp)
  refine h.mono fun r w' h => ?_
  rw [show [l].flatten = l by simp] at h
  exact Put.later k h
/-- put of a number's bytes and a part that came in -/
theorem put_lit2 (B p : Nat) (most : Int) (ov : Value) (s : List UInt8 × Int) (e : Int) (w : World) (hW : Wr w B p most ov s) (hB : B ≤ w.heap.size) (cs : Array Value) (n : Nat) (l m : List UInt8) (x : Value) (hn : cs.size = n) (hcs : cs.toList = bv l) (hl : l.length ≤ 1000)
    (hx : ∀ w', Kp (p :: ob ov) w w' → Rd w' x (bv m)) (hm : m.length ≤ 140737488351232) :
    Calls Try.prog 53 #[.pointer (some ⟨p, 0, none⟩), .int .i64 e, .slice (some ⟨w.heap.size + 1, 0, none⟩) 2 2]
      ((w.alloc (.cells cs 5)).alloc (.cells #[.slice (some ⟨w.heap.size, 0, none⟩) n n, x] 22)) (Put B p most ov (putL most s e (l ++ m)) w) := by
  subst hn
  have hlen : cs.size = l.length := by rw [← Array.length_toList, hcs, bv_length]
  have k : Kp [] w ((w.alloc (.cells cs 5)).alloc (.cells #[.slice (some ⟨w.heap.size, 0, none⟩) cs.size cs.size, x] 22)) := ((Kp.refl [] w).alloc _).alloc _
  have h := put_any B p most ov s e _ [l, m] _ (hW.kp0 k) (by simp; omega)
    (parts2 (b := w.heap.size + 1) (x := .slice (some ⟨w.heap.size, 0, none⟩) cs.size cs.size) (y := x) (T := 22) (by (repeat (first | (with_reducible refine hp_drew ?_) | (with_reducible refine hp_drewN ?_) | ((with_reducible refine hp_new ?_); (simp; done)) | ((with_reducible refine hp_old ?_ ?_); focus (first | (simp; done) | (simp; omega))) | refine Kp.heap (by assumption) ?_ (by simp) | assumption))) (hW.lt (by omega))
      (by have h := rdS (L := p :: ob ov) (w := (w.alloc (.cells cs 5)).alloc (.cells #[.slice (some ⟨w.heap.size, 0, none⟩) cs.size cs.size, x] 22)) (b := w.heap.size) (cs := cs) (T := 5) (by (repeat (first | (with_reducible refine hp_drew ?_) | (with_reducible refine hp_drewN ?_) | ((with_reducible refine hp_new ?_); (simp; done)) | ((with_reducible refine hp_old ?_ ?_); focus (first | (simp; done) | (simp; omega))) | refine Kp.heap (by assumption) ?_ (by simp) | assumption))) (hW.lt (Nat.le_refl _)) (by omega)
          rw [hcs] at h; exact h)
      (fun w' k' => hx w' ((k.mono (by simp)).trans k' (fun m hm => .inl hm))))
    (by unfold flen; simp; omega) (by simp)
  refine h.mono fun r w' h => ?_
  rw [show [l, m].flatten = l ++ m by simp] at h
  exact Put.later k h

set_option maxRecDepth 100000 in
set_option maxHeartbeats 400000 in
theorem wU8_any (B p : Nat) (most : Int) (ov : Value) (s : List UInt8 × Int) (n : Int) (w : World) (hW : Wr w B p most ov s) (hB : B ≤ w.heap.size) :
    Calls Try.prog 31 #[.pointer (some ⟨p, 0, none⟩), .int .i64 n] w (Put B p most ov (putL most s (withinE n 256) [lo8 n]) w) := by
  have HW := Lib.hid hW
  have HB := Lib.hid hB
  clear hW hB
  go_enter Try.func31, Try.ntmps31
  go_wp2_with fail
  refine (within8 n w).mono ?_
  rintro e w' ⟨rfl, rfl⟩
  go_wp2_with fail
  refine (put_lit1 B p most ov s _ w HW.out HB.out _ 1 [lo8 n] rfl (by simp [bv, bval_lo8]) (by simp)).mono ?_
  rintro r w' ⟨ov', rfl, h⟩
  go_wp2_with fail
  go_end0
  exact ⟨ov', rfl, h⟩
set_option maxRecDepth 100000 in
set_option maxHeartbeats 400000 in
theorem wU16_any (B p : Nat) (most : Int) (ov : Value) (s : List UInt8 × Int) (n : Int) (w : World) (hW : Wr w B p most ov s) (hB : B ≤ w.heap.size) :
    Calls Try.prog 32 #[.pointer (some ⟨p, 0, none⟩), .int .i64 n] w (Put B p most ov (putL most s (withinE n 65536) (be16 n)) w) := by
  have HW := Lib.hid hW
  have HB := Lib.hid hB
  clear hW hB
  go_enter Try.func32, Try.ntmps32
  go_wp2_with fail
  refine (within16 n w).mono ?_
  rintro e w' ⟨rfl, rfl⟩
  go_wp2_with fail
  refine (put_lit1 B p most ov s _ w HW.out HB.out _ 2 (be16 n) rfl (by simp [bv, be16, bval_lo8]) (by simp [be16])).mono ?_
  rintro r w' ⟨ov', rfl, h⟩
  go_wp2_with fail
  go_end0
  exact ⟨ov', rfl, h⟩
set_option maxRecDepth 100000 in
set_option maxHeartbeats 400000 in
theorem wU32_any (B p : Nat) (most : Int) (ov : Value) (s : List UInt8 × Int) (n : Int) (h0 : 0 ≤ n) (h1 : n < 4294967296) (w : World) (hW : Wr w B p most ov s) (hB : B ≤ w.heap.size) :
    Calls Try.prog 34 #[.pointer (some ⟨p, 0, none⟩), .int .u32 n] w (Put B p most ov (putL most s 0 (be32 n)) w) := by
  have HW := Lib.hid hW
  have HB := Lib.hid hB
  clear hW hB
  go_enter Try.func34, Try.ntmps34
  go_wp2_with fail
  refine (put_lit1 B p most ov s _ w HW.out HB.out _ 4 (be32 n) rfl (by simp [bv, be32, bval_lo8] <;> omega) (by simp [be32])).mono ?_
  rintro r w' ⟨ov', rfl, h⟩
  go_wp2_with fail
  go_end0
  exact ⟨ov', rfl, h⟩
set_option maxRecDepth 100000 in
set_option maxHeartbeats 400000 in
theorem wFixed_any (B p : Nat) (most : Int) (ov : Value) (s : List UInt8 × Int) (v : Value) (ls : List (List UInt8)) (w : World) (hW : Wr w B p most ov s) (hB : B ≤ w.heap.size)
    (hv : Parts (p :: ob ov) w v ls) (hfl : flen ls ≤ 140737488355328) (hll : ls.length ≤ 140737488355328) :
    Calls Try.prog 51 #[.pointer (some ⟨p, 0, none⟩), v] w (Put B p most ov (putL most s 0 ls.flatten) w) := by
  have HW := Lib.hid hW
  have HB := Lib.hid hB
  have HV := Lib.hid hv
  clear hW hB hv
  go_enter Try.func51, Try.ntmps51
  go_wp2_with fail
  refine (put_any B p most ov s 0 v ls w HW.out HB.out HV.out hfl hll).mono ?_
  rintro r w' ⟨ov', rfl, h⟩
  go_wp2_with fail
  go_end0
  exact ⟨ov', rfl, h⟩
set_option maxRecDepth 100000 in
set_option maxHeartbeats 400000 in
theorem wRun_any (B p : Nat) (most : Int) (ov : Value) (s : List UInt8 × Int) (v : Value) (l : List UInt8) (w : World) (hW : Wr w B p most ov s) (hB : B ≤ w.heap.size)
    (hv : ∀ w', Kp (p :: ob ov) w w' → Rd w' v (bv l)) (hl : l.length ≤ 140737488351232) :
    Calls Try.prog 33 #[.pointer (some ⟨p, 0, none⟩), v] w (Put B p most ov (putL most s (if 65535 < l.length then 12 else 0) (be16 l.length ++ l)) w) := by
  obtain ⟨ao, cap, rfl⟩ := (hv w (Kp.refl _ _)).form
  rw [bv_length] at hv ⊢
  have HW := Lib.hid hW
  have HB := Lib.hid hB
  have HV := Lib.hid hv
  clear hW hB hv
  by_cases hlt : 65535 < l.length
  · rw [if_pos hlt]
    go_enter Try.func33, Try.ntmps33
    go_wp2_with fail
    refine (put_lit2 B p most ov s _ w HW.out HB.out _ 2 (be16 l.length) l _ rfl (by simp [bv, be16, bval_lo8] <;> omega) (by simp [be16]) HV.out hl).mono ?_
    rintro r w' ⟨ov', rfl, h⟩
    go_wp2_with fail
    go_end0
    exact ⟨ov', rfl, h⟩
  · rw [if_neg hlt]
    go_enter Try.func33, Try.ntmps33
    go_wp2_with fail
    refine (put_lit2 B p most ov s _ w HW.out HB.out _ 2 (be16 l.length) l _ rfl (by simp [bv, be16, bval_lo8] <;> omega) (by simp [be16]) HV.out hl).mono ?_
    rintro r w' ⟨ov', rfl, h⟩
    go_wp2_with fail
    go_end0
    exact ⟨ov', rfl, h⟩

theorem join_to (v : Value) (ls : List (List UInt8)) (l : List UInt8) (w : World) (hv : Rdd w v ls) (hf : ls.flatten = l) (hn : l.length ≤ 211106232532992) (hm : ls.length ≤ 211106232532992) :
    Calls Try.prog 14 #[v] w fun e w' => ∃ g, e = .returned (.slice (some ⟨g, 0, none⟩) l.length l.length) ∧
      Own w' w.heap.size 5 (.slice (some ⟨g, 0, none⟩) l.length l.length) (bv l) ∧ w.heap.size ≤ g ∧ g < w'.heap.size ∧ Kp [] w w' := by
  subst hf
  refine (join_any v ls w hv hn hm).mono ?_
  rintro e w' ⟨rfl, ho, k⟩
  exact ⟨_, rfl, ho, Nat.le_refl _, (ho.lt rfl).2, k⟩
set_option maxRecDepth 100000 in
set_option maxHeartbeats 400000 in
theorem out_ok (B p : Nat) (most : Int) (ov : Value) (l : List UInt8) (w : World) (hW : Wr w B p most ov (l, 0)) :
    Calls Try.prog 35 #[.pointer (some ⟨p, 0, none⟩)] w fun e w' => ∃ g, e = .returned (.tuple #[.slice (some ⟨g, 0, none⟩) l.length l.length, .int .i64 0]) ∧
      Own w' w.heap.size 5 (.slice (some ⟨g, 0, none⟩) l.length l.length) (bv l) ∧ w.heap.size ≤ g ∧ g < w'.heap.size ∧ Kp [] w w' := by
  have hc1 : w.cell? ⟨p, 1, none⟩ = some ov := by rw [cell_of_row w p 1 _ _ _ hW.hp]; rfl
  have hc2 : w.cell? ⟨p, 2, none⟩ = some (.int .i64 0) := by rw [cell_of_row w p 2 _ _ _ hW.hp]; rfl
  obtain ⟨oa, oc, rfl⟩ := hW.own.rd.form
  rw [bv_length] at hc1 hW
  have HR := Lib.hid (show Rd w (.slice oa l.length oc) (bv l) from hW.own.rd)
  have HL : Hid (l.length ≤ 1048576) := Lib.hid (by have := hW.hl; have := hW.hm; simp at *; omega)
  clear hW
  go_enter Try.func35, Try.ntmps35
  go_wp2_with fail
  refine (join_to _ [l] l _ (rdd_at1 (x := .slice oa l.length oc) (T := 22) (by (repeat (first | (with_reducible refine hp_drew ?_) | (with_reducible refine hp_drewN ?_) | ((with_reducible refine hp_new ?_); (simp; done)) | ((with_reducible refine hp_old ?_ ?_); focus (first | (simp; done) | (simp; omega))) | refine Kp.heap (by assumption) ?_ (by simp) | assumption))) (HR.out.kp0 (by (repeat (first | exact Kp.refl _ _ | assumption | refine Kp.drewN ?_ _ | refine Kp.drew ?_ | refine Kp.alloc ?_ _ | refine Kp.trans0 ?_ (by assumption)))))) (by simp) (by have := HL.out; omega) (by simp)).mono ?_
  rintro e w' ⟨g, rfl, ho, hg, hg', k⟩
  have HO := Lib.hid ho
  clear ho
  go_wp2_with fail
  go_ret2
  exact ⟨g, rfl, HO.out.base (by simp), by simp at hg; omega, hg', ((Kp.refl [] w).alloc _).trans0 k⟩
set_option maxRecDepth 100000 in
set_option maxHeartbeats 400000 in
theorem out_bad (B p : Nat) (most : Int) (ov : Value) (l : List UInt8) (f : Int) (hf : f ≠ 0) (w : World) (hW : Wr w B p most ov (l, f)) :
    Calls Try.prog 35 #[.pointer (some ⟨p, 0, none⟩)] w fun e w' => e = .returned (.tuple #[.slice none 0 0, .int .i64 f]) ∧ Kp [] w w' := by
  have hc2 : w.cell? ⟨p, 2, none⟩ = some (.int .i64 f) := by rw [cell_of_row w p 2 _ _ _ hW.hp]; rfl
  have hfb : (f != 0) = true := by simpa using hf
  clear hW hf
  go_enter Try.func35, Try.ntmps35
  go_wp2_with fail
  go_quiet (fail)
  go_wp2_with fail
  go_ret2
  exact ⟨rfl, (Kp.refl [] w).drewN _⟩
end Go.Proofs.Ytkceaepbjdfccaa
