/-
What wire.Same, wire.Blank and wire.Wipe come to.
-/
import Derived.Test.YtkceaepbjdfccaaWire4
namespace Go.Proofs.Ytkceaepbjdfccaa
open Go.RowKit

theorem xor_zero (a b : Nat) (h : a ^^^ b = 0) : a = b := by
  have h1 : (a ^^^ b) ^^^ b = 0 ^^^ b := by rw [h]
  rwa [Nat.xor_assoc, Nat.xor_self, Nat.xor_zero, Nat.zero_xor] at h1
theorem orxor (X a b : Int) (h0 : 0 ≤ X) (h1 : X < 256) (h2 : 0 ≤ a) (h3 : a < 256) (h4 : 0 ≤ b) (h5 : b < 256) :
    0 ≤ bits .or .u8 X (bits .xor .u8 a b) ∧ bits .or .u8 X (bits .xor .u8 a b) < 256 ∧ (bits .or .u8 X (bits .xor .u8 a b) = 0 ↔ X = 0 ∧ a = b) := by
  have hx := u8_xor a b h2 h3 h4 h5
  have hxl : a.toNat ^^^ b.toNat < 256 := Nat.xor_lt_two_pow (n := 8) (by omega) (by omega)
  rw [hx, u8_or X _ h0 h1 (by omega) (by omega)]
  simp only [Int.toNat_natCast]
  have hol : X.toNat ||| (a.toNat ^^^ b.toNat) < 256 := Nat.or_lt_two_pow (n := 8) (by omega) (by omega)
  refine ⟨by omega, by omega, ?_⟩
  rw [Int.natCast_eq_zero, Nat.or_eq_zero_iff]
  constructor
  · rintro ⟨p, q⟩
    have := xor_zero _ _ q
    omega
  · rintro ⟨p, q⟩
    subst p; subst q
    simp
theorem take_eq_snoc (l m : List UInt8) (k : Nat) (h1 : k < l.length) (h2 : k < m.length) : l.take (k + 1) = m.take (k + 1) ↔ l.take k = m.take k ∧ (l[k].toNat : Int) = (m[k].toNat : Int) := by
  rw [List.take_succ_eq_append_getElem h1, List.take_succ_eq_append_getElem h2]
  constructor
  · intro h
    have hl : (l.take k).length = (m.take k).length := by simp; omega
    obtain ⟨p, q⟩ := List.append_inj h hl
    refine ⟨p, ?_⟩
    simp only [List.cons.injEq, and_true] at q
    rw [q]
  · rintro ⟨p, q⟩
    rw [p, UInt8.toNat_inj.1 (by omega : l[k].toNat = m[k].toNat)]

set_option maxRecDepth 100000 in
set_option maxHeartbeats 1000000 in
theorem same_any (x y : Value) (l m : List UInt8) (w : World) (hx : Rd w x (bv l)) (hy : Rd w y (bv m)) (hl : l.length ≤ 140737488355328) :
    Calls Try.prog 15 #[x, y] w fun e w' => e = .returned (.bool (decide (l = m))) ∧ ∃ n, w' = w.drewN n := by
  obtain ⟨ax, cx, rfl⟩ := hx.form
  obtain ⟨ay, cy, rfl⟩ := hy.form
  rw [bv_length] at hx hy ⊢
  rw [bv_length]
  by_cases hlen : l.length = m.length
  · have HL := Lib.hid hlen
    have hb : ((l.length : Int) != (m.length : Int)) = false := by rw [hlen]; simp
    clear hlen
    go_enter Try.func15, Try.ntmps15
    go_wp2_with fail
    go_loopw [5, 14] (fun c i wr => ∃ (k n : Nat) (X : Int), k ≤ l.length ∧ i = .int .i64 k ∧ c = .int .u8 X ∧ 0 ≤ X ∧ X < 256 ∧ Hid (X = 0 ↔ l.take k = m.take k) ∧ wr = w.drewN n) (fun _ i _ => l.length - (intOf i).toNat)
    case atStart => exact ⟨0, 0, 0, Nat.zero_le _, rfl, rfl, by omega, by omega, Lib.hid (by simp), rfl⟩
    case round =>
      obtain ⟨k, n, X, hk, rfl, rfl, hX0, hX1, HX, rfl⟩ := hrel
      by_cases hlt : k < l.length
      · have hlt2 : k < m.length := by have := HL.out; omega
        obtain ⟨bx, ox, hax, _, hcx⟩ := hx.byte hlt
        obtain ⟨b1, o1, hay, _, hcy⟩ := hy.byte hlt2
        subst hax hay
        have hi0 : (k : Int) < (l.length : Int) := by omega
        have hi1 : (k : Int) < (m.length : Int) := by omega
        have hi2 : (0 : Int) ≤ (k : Int) := by omega
        have hp0 := u8_lt l[k]
        have hp1 := u8_lt m[k]
        have HT := Lib.hid (take_eq_snoc l m k hlt hlt2)
        have HOX := Lib.hid (orxor X (l[k].toNat : Int) (m[k].toNat : Int) hX0 hX1 (by omega) hp0 (by omega) hp1)
        clear hx hy
        go_wp2_with fail
        go_quiet (fail)
        generalize (l[k].toNat : Int) = P at *
        generalize (m[k].toNat : Int) = R at *
        go_wp2_with fail
        go_roundw
        case rel => exact ⟨k + 1, n + nq, _, by omega, by go_num, rfl, HOX.out.1, HOX.out.2.1, Lib.hid (by rw [HT.out, HOX.out.2.2, HX.out]), rfl⟩
        case measure => simp [intOf]; omega
      · have hkl : k = l.length := by omega
        subst hkl
        have HR : Hid ((X == 0) = decide (l = m)) := by
          have h := HX.out
          rw [List.take_length, HL.out, List.take_length] at h
          apply Lib.hid; rw [Bool.eq_iff_iff]; simp [h]
        clear hx hy
        go_wp2_with fail
        go_ret
        exact ⟨by rw [← HR.out]; rfl, n, rfl⟩
  · have hb : ((l.length : Int) != (m.length : Int)) = true := by rw [bne_iff_ne]; omega
    have HR : Hid (decide (l = m) = false) := Lib.hid (by simp; intro h; exact hlen (by rw [h]))
    clear hlen
    go_enter Try.func15, Try.ntmps15
    go_wp2_with fail
    go_ret
    exact ⟨by rw [HR.out]; rfl, 0, rfl⟩

/-! Blank -/
theorem orz (X a : Int) (h0 : 0 ≤ X) (h1 : X < 256) (h2 : 0 ≤ a) (h3 : a < 256) :
    0 ≤ bits .or .u8 X a ∧ bits .or .u8 X a < 256 ∧ (bits .or .u8 X a = 0 ↔ X = 0 ∧ a = 0) := by
  rw [u8_or X a h0 h1 h2 h3]
  have hol : X.toNat ||| a.toNat < 256 := Nat.or_lt_two_pow (n := 8) (by omega) (by omega)
  refine ⟨by omega, by omega, ?_⟩
  rw [Int.natCast_eq_zero, Nat.or_eq_zero_iff]
  omega
/-- every byte is 0 -/
def blankL (l : List UInt8) : Bool := l.all (· == 0)
theorem blank_snoc (l : List UInt8) (k : Nat) (h : k < l.length) : blankL (l.take (k + 1)) = true ↔ blankL (l.take k) = true ∧ (l[k].toNat : Int) = 0 := by
  unfold blankL
  rw [List.take_succ_eq_append_getElem h, List.all_append, Bool.and_eq_true]
  have e : ((l[k] == 0) = true) ↔ (l[k].toNat : Int) = 0 := by
    rw [beq_iff_eq, ← UInt8.toNat_inj]; simp
  simp only [List.all_cons, List.all_nil, Bool.and_true, e]
set_option maxRecDepth 100000 in
set_option maxHeartbeats 1000000 in
theorem blank_any (x : Value) (l : List UInt8) (w : World) (hx : Rd w x (bv l)) (hl : l.length ≤ 140737488355328) :
    Calls Try.prog 16 #[x] w fun e w' => e = .returned (.bool (blankL l)) ∧ w = w' := by
  obtain ⟨ax, cx, rfl⟩ := hx.form
  rw [bv_length] at hx ⊢
  go_enter Try.func16, Try.ntmps16
  go_wp2_with fail
  go_loop [3, 8] (fun c i => ∃ (k : Nat) (X : Int), k ≤ l.length ∧ i = .int .i64 k ∧ c = .int .u8 X ∧ 0 ≤ X ∧ X < 256 ∧ Hid (X = 0 ↔ blankL (l.take k) = true)) (fun _ i => l.length - (intOf i).toNat)
  case atStart => exact ⟨0, 0, Nat.zero_le _, rfl, rfl, by omega, by omega, Lib.hid (by simp [blankL])⟩
  case round =>
    obtain ⟨k, X, hk, rfl, rfl, hX0, hX1, HX⟩ := hrel
    by_cases hlt : k < l.length
    · obtain ⟨bx, ox, hax, _, hcx⟩ := hx.byte hlt
      subst hax
      have hp0 := u8_lt l[k]
      have HT := Lib.hid (blank_snoc l k hlt)
      have HOX := Lib.hid (orz X (l[k].toNat : Int) hX0 hX1 (by omega) hp0)
      clear hx
      generalize (l[k].toNat : Int) = P at *
      go_wp2_with fail
      go_round
      case rel => exact ⟨k + 1, _, by omega, by go_num, rfl, HOX.out.1, HOX.out.2.1, Lib.hid (by rw [HT.out, HOX.out.2.2, HX.out])⟩
      case measure => simp [intOf]; omega
    · have hkl : k = l.length := by omega
      subst hkl
      have HR : Hid ((X == 0) = blankL l) := by
        have h := HX.out
        rw [List.take_length] at h
        apply Lib.hid; rw [Bool.eq_iff_iff]; simp [h]
      clear hx
      go_wp2_with fail
      go_ret
      exact ⟨by rw [← HR.out]; rfl, rfl⟩

/-! Wipe -/
set_option maxRecDepth 100000 in
set_option maxHeartbeats 1000000 in
/-- the first n cells of the slice become 0 where they stand -/
theorem wipe_any (g n cap : Nat) (cur : Array Value) (T : TypeId) (w : World) (hg : w.heap[g]? = some (.cells cur T (0, 0))) (hn : n ≤ cur.size) (hm : n ≤ 140737488355328) :
    Calls Try.prog 17 #[.slice (some ⟨g, 0, none⟩) n cap] w fun e w' => e = .returned (.tuple #[]) ∧
      w'.heap[g]? = some (.cells (splice cur 0 (List.replicate n (bval 0))) T (0, 0)) ∧ Kp [g] w w' := by
  go_enter Try.func17, Try.ntmps17
  go_wp2_with fail
  go_loopw [5] (fun i wr => ∃ k : Nat, k ≤ n ∧ i = .int .i64 k ∧ wr.heap[g]? = some (.cells (splice cur 0 (List.replicate k (bval 0))) T (0, 0)) ∧ Kp [g] w wr) (fun i _ => n - (intOf i).toNat)
  case atStart => exact ⟨0, Nat.zero_le _, rfl, by rw [List.replicate_zero, splice_nil]; exact hg, Kp.refl _ _⟩
  case round =>
    obtain ⟨k, hk, rfl, hh, hb⟩ := hrel
    clear hg
    by_cases hlt : k < n
    · have hlen : (List.replicate k (bval 0)).length = k := List.length_replicate
      have hs := splice_size cur 0 (List.replicate k (bval 0)) (by rw [hlen]; omega)
      have hc : ∃ u, wr.cell? ⟨g, k, none⟩ = some u := by
        rw [cell_of_row wr g k _ _ _ hh]
        exact ⟨_, Array.getElem?_eq_getElem (by rw [hs]; omega)⟩
      obtain ⟨u, hcu⟩ := hc
      have hfz := frozen_of_row wr g k _ _ hh
      have hnew := heap_setCell_same wr g k _ T (.int .u8 0) hh
      have hsn := splice_snoc cur 0 (List.replicate k (bval 0)) (bval 0) (by rw [hlen]; omega)
      rw [hlen, Nat.zero_add, ← List.replicate_succ'] at hsn
      rw [show (Value.int .u8 0) = bval 0 from rfl, hsn] at hnew
      have HB := hb.setCell (p := ⟨g, k, none⟩) (.inl (by simp)) (.int .u8 0)
      have HN := Lib.hid hnew
      clear hnew hsn hs hlen hh
      go_wp2_with fail
      go_roundw
      case rel => exact ⟨k + 1, by omega, by go_num, HN.out, HB⟩
      case measure => simp [intOf]; omega
    · have hkl : k = n := by omega
      subst hkl
      go_wp2_with fail
      go_end0
      exact ⟨rfl, hh, hb⟩

/-- what the call owns, whole (no spare room), wiped -/
theorem wipe_own (g B n : Nat) (l : List UInt8) (w : World) (ho : Own w B 5 (.slice (some ⟨g, 0, none⟩) n n) (bv l)) (hm : n ≤ 140737488355328) :
    Calls Try.prog 17 #[.slice (some ⟨g, 0, none⟩) n n] w fun e w' => e = .returned (.tuple #[]) ∧
      Own w' B 5 (.slice (some ⟨g, 0, none⟩) n n) (bv (List.replicate n 0)) ∧ Kp [g] w w' := by
  have hn := ho.rd.len
  rcases ho.2 with ⟨h0, _⟩ | ⟨g', cap, cur, he, hb, hg, hnc, hcm, hcs, ht⟩
  · cases h0
  simp only [Value.slice.injEq, Option.some.injEq, Addr.mk.injEq, and_true] at he
  obtain ⟨rfl, rfl, rfl⟩ := he
  refine (wipe_any g _ _ cur _ w hg (by omega) hm).mono ?_
  rintro e w' ⟨rfl, hh, k⟩
  refine ⟨rfl, ?_, k⟩
  have hlen : (bv (List.replicate (bv l).length 0)).length = (bv l).length := by simp [bv]
  refine ⟨by rw [Nat.mul_one], .inr ⟨g, _, _, by rw [hlen], hb, hh, by rw [hlen]; exact Nat.le_refl _, hcm, ?_, ?_⟩⟩
  · rw [splice_size _ _ _ (by simp; omega)]; exact hcs
  · rw [hlen, splice_toList]
    simp only [bv, List.map_replicate, List.take_zero, List.nil_append, List.length_map, Nat.mul_one]
    exact List.take_left' (by simp)
theorem blank_replicate (n : Nat) : blankL (List.replicate n 0) = true := by simp [blankL]
theorem blank_iff (l : List UInt8) : decide (List.replicate l.length 0 = l) = blankL l := by
  rw [Bool.eq_iff_iff, decide_eq_true_iff]
  unfold blankL
  rw [List.all_eq_true, eq_comm, List.eq_replicate_iff]
  simp
theorem blank_set (n k : Nat) (h : k < n) : blankL ((List.replicate n 0).set k 1) = false := by
  unfold blankL
  rw [List.all_eq_false]
  exact ⟨1, List.mem_iff_getElem.2 ⟨k, by simpa using h, by simp⟩, by decide⟩
end Go.Proofs.Ytkceaepbjdfccaa
