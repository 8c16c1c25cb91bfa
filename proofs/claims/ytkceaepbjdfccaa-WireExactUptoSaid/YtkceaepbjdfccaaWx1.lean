/-
The document's answer: bytes joined, compared, written in hexadecimal; numbers.
-/
import Derived.Test.YtkceaepbjdfccaaRead3
import Derived.Test.YtkceaepbjdfccaaApp
import Derived.Test.YtkceaepbjdfccaaWirePlain
namespace Go.Proofs.Ytkceaepbjdfccaa
open Go.RowKit
/-- a cell of an own slice, to be written -/
theorem Own.slotV {w : World} {B n c : Nat} {e : TypeId} {a : Option Addr} {xs : List Value} (h : Own w B e (.slice a n c) xs) {k : Nat} (hk : k < xs.length) :
    ∃ g, a = some ⟨g, 0, none⟩ ∧ w.cell? ⟨g, k, none⟩ = some xs[k] ∧ w.frozen? ⟨g, k, none⟩ = false ∧ B ≤ g ∧ g < w.heap.size ∧ ∀ u : Value, Own (w.setCell ⟨g, k, none⟩ u) B e (.slice a n c) (xs.set k u) := by
  have hn := h.rd.len
  rcases h.2 with ⟨h1, h2⟩ | ⟨g, cap, cur, hv, hb, hg, h1, h2, h3, h4⟩
  · omega
  · simp only [Value.slice.injEq] at hv
    obtain ⟨rfl, _, rfl⟩ := hv
    have hc : w.cell? ⟨g, k, none⟩ = some xs[k] := by
      obtain ⟨b, off, ha, hx, hcc⟩ := h.rd.at (k := k) (by omega)
      simp only [Option.some.injEq, Addr.mk.injEq] at ha
      obtain ⟨rfl, rfl, _⟩ := ha
      rw [Nat.zero_add] at hcc
      exact hcc
    refine ⟨g, rfl, hc, frozen_of_row w g k _ _ hg, hb, (Array.getElem?_eq_some_iff.1 hg).1, fun u => ⟨by simp, .inr ⟨g, c, cur.setIfInBounds k u, by rw [List.length_set]; simp [hn], hb, heap_setCell_same w g k _ _ _ hg, by rw [List.length_set, ← hn]; rw [← hn] at h1; exact h1, h2, by simpa using h3, ?_⟩⟩⟩
    rw [List.length_set, Array.toList_setIfInBounds, List.take_set, h4]
set_option maxRecDepth 100000 in
set_option maxHeartbeats 1000000 in
theorem rsame_any (x y : Value) (l m : List UInt8) (w : World) (hx : Rd w x (bv l)) (hy : Rd w y (bv m)) (hl : l.length ≤ 140737488355328) :
    Calls Try.prog 80 #[x, y] w fun e w' => e = .returned (.bool (decide (l = m))) ∧ ∃ n, w' = w.drewN n := by
  obtain ⟨ax, cx, rfl⟩ := hx.form
  obtain ⟨ay, cy, rfl⟩ := hy.form
  rw [bv_length] at hx hy ⊢
  rw [bv_length]
  by_cases hlen : l.length = m.length
  · have HL := Lib.hid hlen
    have hb : ((l.length : Int) != (m.length : Int)) = false := by rw [hlen]; simp
    clear hlen
    go_enter Try.func80, Try.ntmps80
    go_wp2_with fail
    go_loopw [5] (fun i wr => ∃ (k n : Nat), k ≤ l.length ∧ i = .int .i64 k ∧ Hid (l.take k = m.take k) ∧ wr = w.drewN n) (fun i _ => l.length - (intOf i).toNat)
    case atStart => exact ⟨0, 0, Nat.zero_le _, rfl, Lib.hid (by simp), rfl⟩
    case round =>
      obtain ⟨k, n, hk, rfl, HX, rfl⟩ := hrel
      by_cases hlt : k < l.length
      · have hlt2 : k < m.length := by have := HL.out; omega
        obtain ⟨bx, ox, hax, _, hcx⟩ := hx.byte hlt
        obtain ⟨b1, o1, hay, _, hcy⟩ := hy.byte hlt2
        subst hax hay
        have HT := Lib.hid (take_eq_snoc l m k hlt hlt2)
        have HB : Hid ((l[k].toNat : Int) ≠ (m[k].toNat : Int) → decide (l = m) = false) := Lib.hid (fun h => by simp; intro e; subst e; exact h rfl)
        clear hx hy
        generalize (l[k].toNat : Int) = P at *
        generalize (m[k].toNat : Int) = R at *
        by_cases hpr : P = R
        · subst hpr
          have hbb : (P != P) = false := by simp
          go_wp2_with fail
          go_quiet (fail)
          go_wp2_with fail
          go_roundw
          case rel => exact ⟨k + 1, n + nq, by omega, by go_num, Lib.hid (by rw [HT.out]; exact ⟨HX.out, by trivial⟩), rfl⟩
          case measure => simp [intOf]; omega
        · have hbb : (P != R) = true := by simpa using hpr
          have HR := Lib.hid (HB.out hpr)
          go_wp2_with fail
          go_quiet (fail)
          go_wp2_with fail
          go_ret
          exact ⟨by rw [HR.out]; rfl, n + nq, by simp [World.drewN, Nat.add_assoc]⟩
      · have hkl : k = l.length := by omega
        subst hkl
        have HR : Hid (decide (l = m) = true) := by
          have h := HX.out
          rw [List.take_length, HL.out, List.take_length] at h
          apply Lib.hid; simpa using h
        clear hx hy
        go_wp2_with fail
        go_ret
        exact ⟨by rw [HR.out]; rfl, n, rfl⟩
  · have hb : ((l.length : Int) != (m.length : Int)) = true := by rw [bne_iff_ne]; omega
    have HR : Hid (decide (l = m) = false) := Lib.hid (by simp; intro h; exact hlen (by rw [h]))
    clear hlen
    go_enter Try.func80, Try.ntmps80
    go_wp2_with fail
    go_ret
    exact ⟨by rw [HR.out]; rfl, 0, rfl⟩
set_option maxRecDepth 100000 in
set_option maxHeartbeats 1000000 in
theorem rblank_any (x : Value) (l : List UInt8) (w : World) (hx : Rd w x (bv l)) (hl : l.length ≤ 140737488355328) :
    Calls Try.prog 81 #[x] w fun e w' => e = .returned (.bool (blankL l)) ∧ w = w' := by
  obtain ⟨ax, cx, rfl⟩ := hx.form
  rw [bv_length] at hx ⊢
  go_enter Try.func81, Try.ntmps81
  go_wp2_with fail
  go_loop [3] (fun i => ∃ (k : Nat), k ≤ l.length ∧ i = .int .i64 k ∧ Hid (blankL (l.take k) = true)) (fun i => l.length - (intOf i).toNat)
  case atStart => exact ⟨0, Nat.zero_le _, rfl, Lib.hid (by simp [blankL])⟩
  case round =>
    obtain ⟨k, hk, rfl, HX⟩ := hrel
    by_cases hlt : k < l.length
    · obtain ⟨bx, ox, hax, _, hcx⟩ := hx.byte hlt
      subst hax
      have HT := Lib.hid (blank_snoc l k hlt)
      have HB : Hid ((l[k].toNat : Int) ≠ 0 → blankL l = false) := Lib.hid (fun h => by
        unfold blankL
        rw [List.all_eq_false]
        refine ⟨l[k], List.getElem_mem hlt, ?_⟩
        rw [beq_iff_eq]
        intro e; rw [e] at h; exact h rfl)
      clear hx
      generalize (l[k].toNat : Int) = P at *
      by_cases hp : P = 0
      · subst hp
        go_wp2_with fail
        go_round
        case rel => exact ⟨k + 1, by omega, by go_num, Lib.hid (by rw [HT.out]; exact ⟨HX.out, by trivial⟩)⟩
        case measure => simp [intOf]; omega
      · have hbb : (P != 0) = true := by simpa using hp
        have HR := Lib.hid (HB.out hp)
        go_wp2_with fail
        go_ret
        exact ⟨by rw [HR.out]; rfl, rfl⟩
    · have hkl : k = l.length := by omega
      subst hkl
      have HR : Hid (blankL l = true) := by
        have h := HX.out
        rw [List.take_length] at h
        exact Lib.hid h
      clear hx
      go_wp2_with fail
      go_ret
      exact ⟨by rw [HR.out]; rfl, rfl⟩
/-- a digit, or -1 -/
def rdigI (c : Int) : Int := if digI c ≤ 15 then digI c else -1
theorem hexD_not (c : Int) (_ : 0 ≤ c) (h : ∀ j : Nat, j < 16 → ((hexD j).toNat : Int) ≠ c) : rdigI c = -1 := by
  unfold rdigI
  rw [if_neg]
  intro hd
  have h0 := digI_lo c
  refine h (digI c).toNat (by omega) ?_
  unfold digI at *
  split at hd
  · next hc =>
    have : c = 48 ∨ c = 49 ∨ c = 50 ∨ c = 51 ∨ c = 52 ∨ c = 53 ∨ c = 54 ∨ c = 55 ∨ c = 56 ∨ c = 57 := by omega
    rcases this with rfl | rfl | rfl | rfl | rfl | rfl | rfl | rfl | rfl | rfl <;> rfl
  · split at hd
    · next hc =>
      have : c = 97 ∨ c = 98 ∨ c = 99 ∨ c = 100 ∨ c = 101 ∨ c = 102 := by omega
      rcases this with rfl | rfl | rfl | rfl | rfl | rfl <;> rfl
    · omega
theorem rdigI_at (j : Nat) (h : j < 16) : rdigI ((hexD j).toNat : Int) = j := by unfold rdigI; rw [digI_hexD j h, if_pos (by omega)]
set_option maxRecDepth 100000 in
set_option maxHeartbeats 1000000 in
theorem rdigit_any (c : Int) (h0 : 0 ≤ c) (w : World) :
    Calls Try.prog 84 #[.int .u8 c] w fun e w' => e = .returned (.int .i64 (rdigI c)) ∧ w = w' := by
  go_enter Try.func84, Try.ntmps84
  go_wp2_with fail
  go_loop [3] (fun i => ∃ (k : Nat), k ≤ 16 ∧ i = .int .i64 k ∧ Hid (∀ j : Nat, j < k → ((hexD j).toNat : Int) ≠ c)) (fun i => 16 - (intOf i).toNat)
  case atStart => exact ⟨0, Nat.zero_le _, rfl, Lib.hid (fun j hj => absurd hj (Nat.not_lt_zero _))⟩
  case round =>
    obtain ⟨k, hk, rfl, HX⟩ := hrel
    by_cases hlt : k < 16
    · have hd : ((ByteArray.mk #[48, 49, 50, 51, 52, 53, 54, 55, 56, 57, 97, 98, 99, 100, 101, 102])[k]'hlt) = hexD k := hexD_at k hlt
      have HR := Lib.hid (rdigI_at k hlt)
      have hi1 : (k : Int) < 16 := by omega
      by_cases hp : ((hexD k).toNat : Int) = c
      · subst hp
        go_wp2_with fail
        go_ret
        exact ⟨by rw [HR.out]; rfl, rfl⟩
      · have hbb : (((hexD k).toNat : Int) == c) = false := by simpa using hp
        have HP := Lib.hid hp
        clear hp
        go_wp2_with fail
        go_round
        case rel => exact ⟨k + 1, by omega, by go_num, Lib.hid (fun j hj => by
          rcases Nat.lt_or_ge j k with h | h
          · exact HX.out j h
          · obtain rfl : j = k := by omega
            exact HP.out)⟩
        case measure => simp [intOf]; omega
    · have hkl : k = 16 := by omega
      subst hkl
      have HR := Lib.hid (hexD_not c h0 HX.out)
      go_wp2_with fail
      go_ret
      exact ⟨by rw [HR.out]; rfl, rfl⟩
end Go.Proofs.Ytkceaepbjdfccaa
