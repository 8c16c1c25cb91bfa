/-
StateLimits answers true at every input.
-/
import Derived.Test.YtkceaepbjdfccaaLim4
import Derived.Deep.CutRange
import Derived.Deep.DeepCutAuto
namespace Go.Proofs.Ytkceaepbjdfccaa
open Go.RowKit
set_option maxRecDepth 100000 in
set_option maxHeartbeats 2000000 in
theorem limits_walk (l : Lim) (w : World) (hc0 : 0 ≤ l.counter) (hc : l.counter < 4294967296) :
    Calls Try.prog 8 #[l.v] w fun e w' => e = .returned (.bool true) ∧ Kp [] w w' := by
  obtain ⟨peers, prekeys, skip, skips, outbox, counter⟩ := l
  unfold Lim.v
  simp only at hc hc0 ⊢
  go_enter Try.func8, Try.ntmps8
  go_upto_region 1 with fail
  go_cut [3] (fun c w' => (c = .bool true ∧ Lim.fit ⟨peers, prekeys, skip, skips, outbox, counter⟩ ∨ c = .bool false ∧ ¬ Lim.fit ⟨peers, prekeys, skip, skips, outbox, counter⟩) ∧ w' = w.alloc (.cells #[.int .i64 peers, .int .i64 prekeys, .int .i64 skip, .int .i64 skips, .int .i64 outbox, .int .u32 counter] 74))
  case first =>
    have hun : Lim.fit ⟨peers, prekeys, skip, skips, outbox, counter⟩ ↔ ((1 ≤ peers ∧ peers ≤ 16) ∧ (1 ≤ prekeys ∧ prekeys ≤ 64) ∧ (0 ≤ skip ∧ skip ≤ 64) ∧ (0 ≤ skips ∧ skips ≤ 256) ∧ (1 ≤ outbox ∧ outbox ≤ 64) ∧ 1 ≤ counter) := Iff.rfl
    have HU := Lib.hid hun
    clear hun
    by_cases hcc : 1 ≤ counter
    · go_wp2_with fail
      all_goals go_meet
      all_goals refine ⟨?_, rfl⟩
      all_goals first
        | exact .inl ⟨by simp, HU.out.2 (by omega)⟩
        | exact .inr ⟨rfl, fun h => by have := HU.out.1 h; omega⟩
    · go_wp2_with fail
      all_goals go_meet
      all_goals refine ⟨?_, rfl⟩
      all_goals first
        | exact .inr ⟨by simp; omega, fun h => by have := HU.out.1 h; omega⟩
        | exact .inr ⟨rfl, fun h => by have := HU.out.1 h; omega⟩
  case rest =>
    obtain ⟨hd, rfl⟩ := hcut
    rcases hd with ⟨rfl, hfit⟩ | ⟨rfl, hfit⟩
    · have HFit := Lib.hid hfit
      clear hfit
      go_wp2_with fail
      refine (encodeLimits_yes ⟨peers, prekeys, skip, skips, outbox, counter⟩ HFit.out hc _).mono ?_
      rintro e w1 ⟨g, rfl, ho, hg, hg', k1⟩
      have HP : Hid (∀ w', Kp [] w1 w' → w'.heap[w.heap.size]? = some (.cells #[.int .i64 peers, .int .i64 prekeys, .int .i64 skip, .int .i64 skips, .int .i64 outbox, .int .u32 counter] 74 (0, 0))) := Lib.hid (fun w' k => k.heap (k1.heap (heap_alloc_new _ _) (by simp)) (by simp))
      have K1 : Hid (Kp [] w w1) := Lib.hid (((Kp.refl [] w).alloc _).trans0 k1)
      have HO := Lib.hid ho
      clear ho hg hg' k1
      go_wp2_with fail
      refine (decode_enc ⟨peers, prekeys, skip, skips, outbox, counter⟩ HFit.out hc _ w1 HO.out.rd).mono ?_
      rintro e w2 ⟨rfl, k2⟩
      have K2 := Lib.hid k2
      have hp := HP.out w2 k2
      have hlt2 : w.heap.size < w2.heap.size := (Array.getElem?_eq_some_iff.1 hp).1
      have hne2 : ¬ w.heap.size = w2.heap.size := by omega
      have c0 : w2.cell? ⟨w.heap.size, 0, none⟩ = some (.int .i64 peers) := by rw [cell_of_row w2 _ 0 _ _ _ hp]; rfl
      have c1 : w2.cell? ⟨w.heap.size, 1, none⟩ = some (.int .i64 prekeys) := by rw [cell_of_row w2 _ 1 _ _ _ hp]; rfl
      have c2 : w2.cell? ⟨w.heap.size, 2, none⟩ = some (.int .i64 skip) := by rw [cell_of_row w2 _ 2 _ _ _ hp]; rfl
      have c3 : w2.cell? ⟨w.heap.size, 3, none⟩ = some (.int .i64 skips) := by rw [cell_of_row w2 _ 3 _ _ _ hp]; rfl
      have c4 : w2.cell? ⟨w.heap.size, 4, none⟩ = some (.int .i64 outbox) := by rw [cell_of_row w2 _ 4 _ _ _ hp]; rfl
      have c5 : w2.cell? ⟨w.heap.size, 5, none⟩ = some (.int .u32 counter) := by rw [cell_of_row w2 _ 5 _ _ _ hp]; rfl
      clear k2 hp
      unfold Lim.v
      simp only
      go_wp2_with fail
      refine (checkLimits_any ⟨peers, prekeys, skip, skips, outbox, counter⟩ _).mono ?_
      rintro e w3 ⟨r, rfl, hr, k3⟩
      have hr2 : r = 0 := by
        rcases hr with ⟨_, h⟩ | ⟨h, _⟩
        · exact h
        · exact (h HFit.out).elim
      subst hr2
      have K3 : Hid (Kp [] w1 w3) := Lib.hid ((K2.out.alloc _).trans0 k3)
      clear hr k3 c0 c1 c2 c3 c4 c5 hlt2 hne2 K2 HP
      have hlen : (bv (Lim.enc ⟨peers, prekeys, skip, skips, outbox, counter⟩)).length = 14 := rfl
      have R3 : Hid (Rd w3 (.slice (some ⟨g, 0, none⟩) 14 14) (bv (Lim.enc ⟨peers, prekeys, skip, skips, outbox, counter⟩))) := Lib.hid (HO.out.kp0 K3.out).rd
      obtain ⟨a6, n6, cp6, s6, r6⟩ := run_subb_hm el_u8 R3.out 13 (by decide)
      have R6 := Lib.hid r6
      have KW3 := Lib.hid (K1.out.trans0 K3.out)
      clear r6 hlen K1 K3 HO
      rw [show ((13 : Nat) : Int) = 13 from rfl] at s6
      go_wp2_with fail
      refine (decode_cut ⟨peers, prekeys, skip, skips, outbox, counter⟩ HFit.out _ w3 R6.out).mono ?_
      rintro e w4 ⟨z4, rfl, k4⟩
      obtain ⟨za, zb, zc, zd, ze, zf⟩ := z4
      unfold Lim.v
      simp only
      have KW4 := Lib.hid (KW3.out.trans0 (k4.alloc (.cells #[.int .i64 za, .int .i64 zb, .int .i64 zc, .int .i64 zd, .int .i64 ze, .int .u32 zf] 74)))
      have R4 := Lib.hid (R3.out.kp0 (k4.alloc (.cells #[.int .i64 za, .int .i64 zb, .int .i64 zc, .int .i64 zd, .int .i64 ze, .int .u32 zf] 74)))
      clear R3 R6 KW3 k4
      have rdf : ∀ (x : World) (e : TypeId), Rd (x.alloc (.cells #[Value.int .u8 0] e)) (.slice (some ⟨x.heap.size, 0, none⟩) 1 1) [Value.int .u8 0] := fun x e => rd_lit1 x e _
      have tok1 : True := trivial
      go_wp2_with (first
        | (at_builtin; have _t := tok1; clear _t tok1; refine wpl_append3 el_u8 rfl _ _ rfl rfl rfl (Own.nil _ (w4.alloc (.cells #[.int .i64 za, .int .i64 zb, .int .i64 zc, .int .i64 zd, .int .i64 ze, .int .u32 zf] 74)).heap.size _) R4.out (bv_oneCell _) (by show 0 + 14 ≤ _; omega) (Nat.le_refl _) ?_; intro v1 x3 ho3 hg3 hw3; have O3 := Lib.hid ho3; have K3 := Lib.hid (Kp.grown (Kp.refl [] _) hg3 (fun k hk => by cases hk)); have HS3 := Lib.hid hg3.size; clear ho3 hg3 hw3)
        | (at_builtin; refine wpl_append3 el_u8 rfl _ _ rfl rfl rfl (O3.out.kp0 ((Kp.refl [] x3).alloc _)) (rdf x3 _) (by simp [Value.oneCell']) (by show 0 + 14 + 1 ≤ _; omega) (by have := HS3.out; simp at *; omega) ?_; intro v2 x4 ho4 hg4 hw4; have O4 := Lib.hid ho4; have KK4 := Lib.hid hg4; clear ho4 hg4 hw4)
        | fail)
      have R5 : Hid (Rd x4 v2 (bv (Lim.enc ⟨peers, prekeys, skip, skips, outbox, counter⟩ ++ [0]))) := Lib.hid (by have h := O4.out.rd; simpa [bv, bval] using h)
      have J4 := Lib.hid ((K3.out.alloc _).grown KK4.out (fun k hk => .inr (O3.out.lt hk).1))
      clear O4 KK4 O3 K3 HS3 rdf
      refine (decode_tail ⟨peers, prekeys, skip, skips, outbox, counter⟩ HFit.out hc _ x4 R5.out).mono ?_
      rintro e w5 ⟨z5, rfl, k5⟩
      obtain ⟨ya, yb, yc, yd, ye, yf⟩ := z5
      unfold Lim.v
      simp only
      have J5 := Lib.hid ((KW4.out.trans0 J4.out).trans0 k5)
      clear k5 R5 R4 J4 KW4
      go_wp2_with fail
      go_ret
      exact ⟨rfl, J5.out.alloc _⟩
    · have HFit := Lib.hid hfit
      clear hfit
      go_wp2_with fail
      refine (encodeLimits_no ⟨peers, prekeys, skip, skips, outbox, counter⟩ HFit.out _).mono ?_
      rintro e w1 ⟨rfl, k1⟩
      have hp : w1.heap[w.heap.size]? = some (.cells #[.int .i64 peers, .int .i64 prekeys, .int .i64 skip, .int .i64 skips, .int .i64 outbox, .int .u32 counter] 74 (0, 0)) := k1.heap (heap_alloc_new _ _) (by simp)
      have K1 : Hid (Kp [] w w1) := Lib.hid (((Kp.refl [] w).alloc _).trans0 k1)
      have c0 : w1.cell? ⟨w.heap.size, 0, none⟩ = some (.int .i64 peers) := by rw [cell_of_row w1 _ 0 _ _ _ hp]; rfl
      have c1 : w1.cell? ⟨w.heap.size, 1, none⟩ = some (.int .i64 prekeys) := by rw [cell_of_row w1 _ 1 _ _ _ hp]; rfl
      have c2 : w1.cell? ⟨w.heap.size, 2, none⟩ = some (.int .i64 skip) := by rw [cell_of_row w1 _ 2 _ _ _ hp]; rfl
      have c3 : w1.cell? ⟨w.heap.size, 3, none⟩ = some (.int .i64 skips) := by rw [cell_of_row w1 _ 3 _ _ _ hp]; rfl
      have c4 : w1.cell? ⟨w.heap.size, 4, none⟩ = some (.int .i64 outbox) := by rw [cell_of_row w1 _ 4 _ _ _ hp]; rfl
      have c5 : w1.cell? ⟨w.heap.size, 5, none⟩ = some (.int .u32 counter) := by rw [cell_of_row w1 _ 5 _ _ _ hp]; rfl
      clear k1 hp
      go_wp2_with fail
      refine (checkLimits_any ⟨peers, prekeys, skip, skips, outbox, counter⟩ _).mono ?_
      rintro e w2 ⟨r, rfl, hr, k2⟩
      have hr2 : r = 2 := by
        rcases hr with ⟨h, _⟩ | ⟨_, h⟩
        · exact (HFit.out h).elim
        · exact h
      subst hr2
      clear hr
      go_wp2_with fail
      go_ret
      exact ⟨rfl, K1.out.trans0 k2⟩
end Go.Proofs.Ytkceaepbjdfccaa
