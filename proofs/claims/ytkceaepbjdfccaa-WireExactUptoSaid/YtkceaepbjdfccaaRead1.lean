/-
A reader: its words; what NewReader, number, Left, End, Fault and field come to.
-/
import Derived.Test.YtkceaepbjdfccaaWire8
namespace Go.Proofs.Ytkceaepbjdfccaa
open Go.RowKit

/-- where a reader stands, where its fault is, and its fault -/
structure Rst where
  at_ : Nat
  wh : Int
  f : Int
/-- the next n bytes behind so many that are passed over -/
def fieldL (b : List UInt8) (s : Rst) (ahead : Nat) (n : Int) : List UInt8 × Rst :=
  if s.f ≠ 0 then ([], s)
  else if n < 0 then ([], ⟨s.at_, s.at_, 4⟩)
  else if (b.length : Int) - s.at_ - ahead < n then ([], ⟨s.at_, s.at_, 10⟩)
  else ((b.drop (s.at_ + ahead)).take n.toNat, ⟨s.at_ + ahead + n.toNat, s.wh, 0⟩)
/-- a reader at block p, of the bytes b -/
structure Rr (w : World) (B p : Nat) (rv : Value) (b : List UInt8) (s : Rst) : Prop where
  hp : w.heap[p]? = some (.cells #[rv, .int .i64 s.at_, .int .i64 s.wh, .int .i64 s.f] 104 (0, 0))
  own : Own w B 5 rv (bv b)
  le : B ≤ p
  hat : s.at_ ≤ b.length
  hb : b.length ≤ 211106232532992
theorem Rr.ne {w : World} {B p : Nat} {rv : Value} {b : List UInt8} {s : Rst} (h : Rr w B p rv b s) : p ∉ ob rv := by
  rw [mem_ob]; exact h.own.not_at h.hp (by decide)
theorem Rr.kp {w w' : World} {L : List Nat} {B p : Nat} {rv : Value} {b : List UInt8} {s : Rst} (h : Rr w B p rv b s) (k : Kp L w w') (hp : p ∉ L) (ho : ∀ g ∈ ob rv, g ∉ L) : Rr w' B p rv b s :=
  ⟨k.heap h.hp hp, h.own.kp k (fun g hg => ho g (mem_ob.2 hg)), h.le, h.hat, h.hb⟩
theorem Rr.kp0 {w w' : World} {B p : Nat} {rv : Value} {b : List UInt8} {s : Rst} (h : Rr w B p rv b s) (k : Kp [] w w') : Rr w' B p rv b s := h.kp k (by simp) (by simp)
theorem Rr.set {w w' : World} {B p : Nat} {rv : Value} {b : List UInt8} {s s' : Rst} (h : Rr w B p rv b s) (k : Kp [p] w w')
    (hp : w'.heap[p]? = some (.cells #[rv, .int .i64 s'.at_, .int .i64 s'.wh, .int .i64 s'.f] 104 (0, 0))) (ha : s'.at_ ≤ b.length) : Rr w' B p rv b s' :=
  ⟨hp, h.own.kp k (fun g hg => by rw [List.mem_singleton]; intro e; subst e; exact h.ne (mem_ob.2 hg)), h.le, ha, h.hb⟩
theorem Rr.cells {w : World} {B p : Nat} {rv : Value} {b : List UInt8} {s : Rst} (h : Rr w B p rv b s) :
    w.cell? ⟨p, 0, none⟩ = some rv ∧ w.cell? ⟨p, 1, none⟩ = some (.int .i64 s.at_) ∧ w.cell? ⟨p, 2, none⟩ = some (.int .i64 s.wh) ∧ w.cell? ⟨p, 3, none⟩ = some (.int .i64 s.f) := by
  refine ⟨?_, ?_, ?_, ?_⟩ <;> rw [cell_of_row w p _ _ _ _ h.hp] <;> rfl
theorem Rr.lt {w : World} {B p : Nat} {rv : Value} {b : List UInt8} {s : Rst} (h : Rr w B p rv b s) : p < w.heap.size := (Array.getElem?_eq_some_iff.1 h.hp).1

/-- bytes as a number, the highest first, modulo 2^32 -/
def numL (b : List UInt8) : Int := b.foldl (fun n c => (n * 256 + (c.toNat : Int)) % 4294967296) 0
theorem numL_lo (b : List UInt8) : 0 ≤ numL b ∧ numL b < 4294967296 := by
  unfold numL
  suffices h : ∀ (b : List UInt8) (n : Int), 0 ≤ n ∧ n < 4294967296 → 0 ≤ b.foldl (fun n c => (n * 256 + (c.toNat : Int)) % 4294967296) n ∧ b.foldl (fun n c => (n * 256 + (c.toNat : Int)) % 4294967296) n < 4294967296 from h b 0 (by omega)
  intro b
  induction b with
  | nil => intro n h; exact h
  | cons x r ih => intro n h; exact ih _ ⟨Int.emod_nonneg _ (by decide), Int.emod_lt_of_pos _ (by decide)⟩
theorem numL_snoc (l : List UInt8) (k : Nat) (h : k < l.length) : numL (l.take (k + 1)) = (numL (l.take k) * 256 + (l[k].toNat : Int)) % 4294967296 := by
  unfold numL; rw [List.take_succ_eq_append_getElem h, List.foldl_append]; rfl
theorem or8 (n c : Int) (_ : 0 ≤ n) (_ : n < 4294967296) (h2 : 0 ≤ c) (h3 : c < 256) : bits .or .u32 (n * 256 % 4294967296) (c % 4294967296) = (n * 256 + c) % 4294967296 := by
  rw [Int.emod_eq_of_lt h2 (by omega), u32_or _ _ (by omega) (by omega) h2 (by omega)]
  have e : (n * 256 % 4294967296).toNat = 2 ^ 8 * (n % 16777216).toNat := by omega
  have h := Nat.two_pow_add_eq_or_of_lt (i := 8) (b := c.toNat) (by omega) (n % 16777216).toNat
  rw [e, ← h]; omega
set_option maxRecDepth 100000 in
set_option maxHeartbeats 400000 in
theorem number_any (x : Value) (l : List UInt8) (w : World) (hx : Rd w x (bv l)) (hl : l.length ≤ 211106232532992) :
    Calls Try.prog 56 #[x] w fun e w' => e = .returned (.int .u32 (numL l)) ∧ w = w' := by
  obtain ⟨ax, cx, rfl⟩ := hx.form
  rw [bv_length] at hx ⊢
  go_enter Try.func56, Try.ntmps56
  go_wp2_with fail
  go_loop [3, 8] (fun c i => ∃ (k : Nat) (X : Int), k ≤ l.length ∧ i = .int .i64 k ∧ c = .int .u32 X ∧ 0 ≤ X ∧ X < 4294967296 ∧ Hid (X = numL (l.take k))) (fun _ i => l.length - (intOf i).toNat)
  case atStart => exact ⟨0, 0, Nat.zero_le _, rfl, rfl, by omega, by omega, Lib.hid rfl⟩
  case round =>
    obtain ⟨k, X, hk, rfl, rfl, hX0, hX1, HX⟩ := hrel
    by_cases hlt : k < l.length
    · obtain ⟨bx, ox, hax, _, hcx⟩ := hx.byte hlt
      subst hax
      have hp0 := u8_lt l[k]
      have HT := Lib.hid (numL_snoc l k hlt)
      have HOX := Lib.hid (or8 X (l[k].toNat : Int) hX0 hX1 (by omega) hp0)
      have HLO := Lib.hid (numL_lo (l.take (k + 1)))
      clear hx
      generalize (l[k].toNat : Int) = P at *
      go_wp2_with fail
      go_round
      case rel => exact ⟨k + 1, _, by omega, by go_num, rfl, by rw [HOX.out, HX.out, ← HT.out]; exact HLO.out.1, by rw [HOX.out, HX.out, ← HT.out]; exact HLO.out.2, Lib.hid (by rw [HOX.out, HX.out, HT.out])⟩
      case measure => simp [intOf]; omega
    · have hkl : k = l.length := by omega
      subst hkl
      have HR := HX.out
      rw [List.take_length] at HR
      have HR2 := Lib.hid HR
      clear hx HX HR
      go_wp2_with fail
      go_ret
      exact ⟨by rw [← HR2.out]; rfl, rfl⟩
set_option maxRecDepth 100000 in
set_option maxHeartbeats 400000 in
theorem left_any (B p : Nat) (rv : Value) (b : List UInt8) (s : Rst) (w : World) (hR : Rr w B p rv b s) :
    Calls Try.prog 26 #[.pointer (some ⟨p, 0, none⟩)] w fun e w' => e = .returned (.int .i64 ((b.length : Int) - s.at_)) ∧ ∃ n, w' = w.drewN n := by
  obtain ⟨h0, h1, h2, h3⟩ := hR.cells
  obtain ⟨ao, ac, rfl⟩ := hR.own.rd.form
  rw [bv_length] at h0
  have ha := hR.hat
  have hb := hR.hb
  clear hR h2 h3
  go_enter Try.func26, Try.ntmps26
  go_wp2_with fail
  go_quiet (fail)
  go_wp2_with fail
  go_ret
  exact ⟨rfl, _, rfl⟩
set_option maxRecDepth 100000 in
set_option maxHeartbeats 400000 in
theorem newReader_any (v : Value) (l : List UInt8) (w : World) (hv : Rd w v (bv l)) (hl : l.length ≤ 211106232532992) :
    Calls Try.prog 23 #[v] w fun e w' => ∃ p rv, e = .returned (.pointer (some ⟨p, 0, none⟩)) ∧ Rr w' w.heap.size p rv l ⟨0, 0, 0⟩ ∧ Kp [] w w' := by
  obtain ⟨ao, ac, rfl⟩ := hv.form
  rw [bv_length] at hv ⊢
  have HV := Lib.hid hv
  clear hv
  go_enter Try.func23, Try.ntmps23
  go_wp2_with fail
  refine (join_to _ [l] l _ (rdd_at1 (x := .slice ao l.length ac) (T := 22) (by (repeat (first | (with_reducible refine hp_drew ?_) | (with_reducible refine hp_drewN ?_) | ((with_reducible refine hp_new ?_); (simp; done)) | ((with_reducible refine hp_old ?_ ?_); focus (first | (simp; done) | (simp; omega))) | refine Kp.heap (by assumption) ?_ (by simp) | assumption))) (HV.out.kp0 (by (repeat (first | exact Kp.refl _ _ | assumption | refine Kp.drewN ?_ _ | refine Kp.drew ?_ | refine Kp.alloc ?_ _ | refine Kp.trans0 ?_ (by assumption)))))) (by simp) (by omega) (by simp)).mono ?_
  rintro e w' ⟨g, rfl, ho, hg, hg', k⟩
  have HO := Lib.hid ho
  clear ho
  go_wp2_with fail
  go_ret
  refine ⟨_, _, rfl, ⟨heap_alloc_new _ _, (HO.out.base (by simp)).kp0 ((Kp.refl [] _).alloc _), by have := k.size; simp at this; omega, by simp, hl⟩, (((Kp.refl [] w).alloc _).trans0 k).alloc _⟩
/-- what holds where a goto has come from: the frame, and the world but for draws -/
def JumpAt (A : Act) (w : World) (a' : Act) (w' : World) : Prop := a' = A ∧ ∃ n, w' = w.drewN n
set_option maxRecDepth 100000 in
set_option maxHeartbeats 1000000 in
theorem field_any (B p : Nat) (rv : Value) (b : List UInt8) (s : Rst) (ahead : Nat) (n : Int) (w : World) (hR : Rr w B p rv b s) (ha : ahead ≤ 2) (hn : n ≤ 211106232532992) :
    Calls Try.prog 55 #[.pointer (some ⟨p, 0, none⟩), .int .i64 ahead, .int .i64 n] w fun e w' => ∃ v', e = .returned v' ∧ Own w' w.heap.size 5 v' (bv (fieldL b s ahead n).1) ∧ Rr w' B p rv b (fieldL b s ahead n).2 ∧ Kp [p] w w' := by
  obtain ⟨h0, h1, h2, h3⟩ := hR.cells
  obtain ⟨at_, wh, f⟩ := s
  have hat := hR.hat
  have hbl := hR.hb
  have hfz2 : w.frozen? ⟨p, 2, none⟩ = false := frozen_of_row w p 2 _ _ hR.hp
  have hfz3 : w.frozen? ⟨p, 3, none⟩ = false := frozen_of_row w p 3 _ _ hR.hp
  have hfz1 : w.frozen? ⟨p, 1, none⟩ = false := frozen_of_row w p 1 _ _ hR.hp
  simp only at h1 h2 h3 hat
  by_cases hf : f = 0
  · subst hf
    by_cases hn0 : n < 0
    · have hL : fieldL b ⟨at_, wh, 0⟩ ahead n = ([], ⟨at_, at_, 4⟩) := by unfold fieldL; rw [if_neg (by simp), if_pos hn0]
      have HL := Lib.hid hL
      have HR := Lib.hid hR
      clear hL hR
      go_enter Try.func55, Try.ntmps55
      go_wp2_with fail
      refine wp_scope_jumps 0 (JumpAt { tmps := #[.pointer (some ⟨p, 0, none⟩), .int .i64 (ahead : Int), .int .i64 n, undef, undef, undef, .slice none 0 0, .int .i64 4, .pointer (some ⟨p, 0, none⟩), .pointer (some ⟨p, 0, none⟩), .pointer (some ⟨p, 3, none⟩), .int .i64 0, .bool false, .int .i64 n, .bool true, undef, undef, undef, undef, undef, undef, undef, undef, undef, undef, undef, undef, undef, undef, undef, undef, undef, undef, undef, undef, undef, undef, undef, undef, undef, undef, undef, undef, undef, undef, undef, undef, undef, undef, undef, undef, undef, undef, undef, undef, undef, undef, undef, undef], defers := [] } w) (fun _ _ => 0) rfl ?first ?pass
      case first =>
        go_wp2_with fail
        refine wp_goto ?_
        exact ⟨rfl, rfl, 0, rfl⟩
      case pass =>
        rintro a' w' ⟨rfl, nn, rfl⟩
        go_wp2_with fail
        go_wp2_with fail
        simp only [Exit.jump]
        go_ret
        have e1 := heap_setCell_same (w.drewN nn) p 2 _ _ (.int .i64 (at_ : Int)) HR.out.hp
        have e2 := heap_setCell_same _ p 3 _ _ (.int .i64 4) e1
        exact ⟨_, rfl, by rw [HL.out]; exact Own.nil _ _ _, by rw [HL.out]; exact HR.out.set ((((Kp.refl [p] w).drewN nn).setCell (.inl (by simp)) _).setCell (.inl (by simp)) _) e2 hat, (((Kp.refl [p] w).drewN nn).setCell (.inl (by simp)) _).setCell (.inl (by simp)) _⟩
    · by_cases hlong : (b.length : Int) - at_ - ahead < n
      · have hd0 : decide (n < 0) = false := by simpa using hn0
        have hd1 : decide ((b.length : Int) - at_ - ahead < n) = true := by simpa using hlong
        have hL : fieldL b ⟨at_, wh, 0⟩ ahead n = ([], ⟨at_, at_, 10⟩) := by unfold fieldL; rw [if_neg (by simp), if_neg hn0, if_pos hlong]
        have HL := Lib.hid hL
        have HR := Lib.hid hR
        clear hL hR
        go_enter Try.func55, Try.ntmps55
        go_wp2_with fail
        refine wp_scope_jumps 0 (JumpAt { tmps := #[.pointer (some ⟨p, 0, none⟩), .int .i64 (ahead : Int), .int .i64 n, undef, undef, undef, .slice none 0 0, .int .i64 10, .pointer (some ⟨p, 0, none⟩), .pointer (some ⟨p, 0, none⟩), .pointer (some ⟨p, 3, none⟩), .int .i64 0, .bool false, .int .i64 n, .bool false, .int .i64 n, .pointer (some ⟨p, 0, none⟩), .int .i64 ((b.length : Int) - (at_ : Int)), .int .i64 (ahead : Int), .int .i64 ((b.length : Int) - (at_ : Int) - (ahead : Int)), .bool true, undef, undef, undef, undef, undef, undef, undef, undef, undef, undef, undef, undef, undef, undef, undef, undef, undef, undef, undef, undef, undef, undef, undef, undef, undef, undef, undef, undef, undef, undef, undef, undef, undef, undef, undef, undef, undef, undef], defers := [] } w) (fun _ _ => 0) rfl ?first ?pass
        case first =>
          go_wp2_with fail
          refine (left_any B p rv b _ w HR.out).mono ?_
          rintro e w' ⟨rfl, nn, rfl⟩
          go_wp2_with fail
          refine wp_goto ?_
          exact ⟨rfl, rfl, nn, rfl⟩
        case pass =>
          rintro a' w' ⟨rfl, nn, rfl⟩
          go_wp2_with fail
          go_wp2_with fail
          simp only [Exit.jump]
          go_ret
          have e1 := heap_setCell_same (w.drewN nn) p 2 _ _ (.int .i64 (at_ : Int)) HR.out.hp
          have e2 := heap_setCell_same _ p 3 _ _ (.int .i64 10) e1
          exact ⟨_, rfl, by rw [HL.out]; exact Own.nil _ _ _, by rw [HL.out]; exact HR.out.set ((((Kp.refl [p] w).drewN nn).setCell (.inl (by simp)) _).setCell (.inl (by simp)) _) e2 hat, (((Kp.refl [p] w).drewN nn).setCell (.inl (by simp)) _).setCell (.inl (by simp)) _⟩
      · obtain ⟨m, rfl⟩ : ∃ m : Nat, n = m := ⟨n.toNat, by omega⟩
        have hL : fieldL b ⟨at_, wh, 0⟩ ahead m = ((b.drop (at_ + ahead)).take m, ⟨at_ + ahead + m, wh, 0⟩) := by unfold fieldL; rw [if_neg (by simp), if_neg hn0, if_neg hlong]; rfl
        have HL := Lib.hid hL
        have HR := Lib.hid hR
        clear hL hR
        go_enter Try.func55, Try.ntmps55
        go_wp2_with fail
        go_step3
        go_wp2_with fail
        refine (left_any B p rv b _ w HR.out).mono ?_
        rintro e w' ⟨rfl, nn, rfl⟩
        go_wp2_with fail
        have hRs : Rr ((w.drewN nn).setCell ⟨p, 1, none⟩ (.int .i64 (at_ + (ahead + m)))) B p rv b ⟨at_ + ahead + m, wh, 0⟩ := by
          have e1 := heap_setCell_same (w.drewN nn) p 1 _ _ (.int .i64 (at_ + (ahead + m))) HR.out.hp
          refine HR.out.set (((Kp.refl [p] w).drewN nn).setCell (.inl (by simp)) _) ?_ (by simp only; omega)
          rw [e1]
          rw [show (at_ : Int) + ((ahead : Int) + (m : Int)) = ((at_ + ahead + m : Nat) : Int) by omega]; rfl
        have hKs : Kp [p] w ((w.drewN nn).setCell ⟨p, 1, none⟩ (.int .i64 (at_ + (ahead + m)))) := ((Kp.refl [p] w).drewN nn).setCell (.inl (by simp)) _
        have HS : Hid (w.heap.size ≤ ((w.drewN nn).setCell ⟨p, 1, none⟩ (.int .i64 (at_ + (ahead + m)))).heap.size) := Lib.hid hKs.size
        clear h0 h1 h2 h3 hfz1 hfz2 hfz3
        generalize (w.drewN nn).setCell ⟨p, 1, none⟩ (.int .i64 (at_ + (ahead + m))) = W at *
        obtain ⟨g0, g1', _, _⟩ := hRs.cells
        have g1 : W.cell? ⟨p, 1, none⟩ = some (.int .i64 ((at_ : Int) + ((ahead : Int) + (m : Int)))) := by rw [g1']; simp only [Option.some.injEq, Value.int.injEq, true_and]; omega
        clear g1'
        obtain ⟨ao, ac, hrv⟩ := hRs.own.rd.form
        rw [bv_length] at hrv
        subst hrv
        obtain ⟨a1, n1, c1, s1, r1⟩ := run_subb_lh el_u8 hRs.own.rd ((at_ + (ahead + m) - m : Int)) (at_ + (ahead + m)) (by omega) (by omega) (by omega)
        have R1 := Lib.hid r1
        have HRs := Lib.hid hRs
        have HKs := Lib.hid hKs
        have hw1 : IntKind.i64.wrap ((at_ : Int) + ((ahead : Int) + (m : Int)) - (m : Int)) = (at_ : Int) + ((ahead : Int) + (m : Int)) - (m : Int) := IntWalk.i64_in _ (by omega)
        have hfl : Hid ([List.drop (at_ + ahead) (List.take (at_ + ahead + m) b)].flatten = (b.drop (at_ + ahead)).take m) := Lib.hid (by simp [List.drop_take])
        have e1 : ((at_ : Int) + ((ahead : Int) + (m : Int)) - (m : Int)).toNat = at_ + ahead := by omega
        have e2 : ((at_ : Int) + ((ahead : Int) + (m : Int))).toNat = at_ + ahead + m := by omega
        rw [e1, e2] at R1
        have hlen : ((b.drop (at_ + ahead)).take m).length ≤ 211106232532992 := by simp; omega
        clear r1 hRs hKs e1 e2
        generalize (b.drop (at_ + ahead)).take m = Lr at HL hfl hlen
        go_region_held3 (fun w' => w'.cell? ⟨p, 0, none⟩ = some (.slice ao b.length ac) ∧ w'.cell? ⟨p, 1, none⟩ = some (.int .i64 ((at_ : Int) + ((ahead : Int) + (m : Int))))) (go_keep)
          (first | (go_at_call 14; go_must (refine (join_to _ [List.drop (at_ + ahead) (List.take (at_ + ahead + m) b)] Lr _ (rdd_at1 (x := .slice a1 n1 c1) (T := 22) (by (repeat (first | (with_reducible refine hp_drew ?_) | (with_reducible refine hp_drewN ?_) | ((with_reducible refine hp_new ?_); (simp; done)) | ((with_reducible refine hp_old ?_ ?_); focus (first | (simp; done) | (simp; omega))) | refine Kp.heap (by assumption) ?_ (by simp) | assumption))) (R1.out.kp0 (by (repeat (first | exact Kp.refl _ _ | assumption | refine Kp.drewN ?_ _ | refine Kp.drew ?_ | refine Kp.alloc ?_ _ | refine Kp.trans0 ?_ (by assumption)))))) hfl.out hlen (by simp)).mono ?_); rintro e wj ⟨g, rfl, ho, hg, hg', k⟩; have HO := Lib.hid ho; clear ho; have kk : Kp [] W wj := (by (repeat (first | exact Kp.refl _ _ | assumption | refine Kp.drewN ?_ _ | refine Kp.drew ?_ | refine Kp.alloc ?_ _ | refine Kp.trans0 ?_ (by assumption)))); have c0 := kk.cell_some g0 (by simp); have c1 := kk.cell_some g1 (by simp)))
        go_wp2_with fail
        rw [Exit.noGoto_ret]
        go_ret
        refine ⟨.slice (some ⟨g, 0, none⟩) Lr.length Lr.length, rfl, ?_, ?_, ?_⟩
        · rw [HL.out]; exact HO.out.base (Nat.le_trans HKs.out.size (by simp))
        · rw [HL.out]; exact HRs.out.kp0 kk
        · exact HKs.out.trans0 kk
  · have hfb : (f != 0) = true := by simpa using hf
    have hL : fieldL b ⟨at_, wh, f⟩ ahead n = ([], ⟨at_, wh, f⟩) := by unfold fieldL; rw [if_pos hf]
    have HL := Lib.hid hL
    have HR := Lib.hid hR
    clear hL hR hf
    go_enter Try.func55, Try.ntmps55
    go_wp2_with fail
    go_step3
    go_wp2_with fail
    rw [Exit.noGoto_ret]
    go_ret
    exact ⟨_, rfl, by rw [HL.out]; exact Own.nil _ _ _, by rw [HL.out]; exact HR.out, Kp.refl _ _⟩
end Go.Proofs.Ytkceaepbjdfccaa
