/-
lethelaw25.code, lethelaw25.SafetyNames.
-/
import Derived.Test.YtkceaepbjdfccaaDoorNumb2
namespace Go.Proofs.YtkceaepbjdfccaaDoor
open Go.RowKit
set_option maxRecDepth 100000 in
theorem code_any (s : ByteArray) (w : World) (hs : s.size ≤ 140737488351232) :
    Calls Tryd.prog 21 #[.string s] w fun e w' => e = .returned (.int .i64 (nameErr s.size)) ∧ w = w' := by
  by_cases h0 : s.size = 0
  · have e : nameErr s.size = 6 := by unfold nameErr; rw [if_pos h0]
    have E := Lib.hid e
    have hb : ((s.size : Int) == 0) = true := by rw [h0]; rfl
    clear e h0
    go_enter Tryd.func21, Tryd.ntmps21
    go_wp2_with fail
    go_ret
    exact ⟨by rw [E.out]; rfl, rfl⟩
  · have hb : ((s.size : Int) == 0) = false := by rw [beq_eq_false_iff_ne]; omega
    by_cases h2 : 16 < s.size
    · have e : nameErr s.size = 5 := by unfold nameErr; rw [if_neg h0, if_pos h2]
      have E := Lib.hid e
      clear e h0
      go_enter Tryd.func21, Tryd.ntmps21
      go_wp2_with fail
      go_ret
      exact ⟨by rw [E.out]; rfl, rfl⟩
    · have e : nameErr s.size = 0 := by unfold nameErr; rw [if_neg h0, if_neg h2]
      have E := Lib.hid e
      have h3 : ¬ 16 < (s.size : Int) := by omega
      clear e h0
      go_enter Tryd.func21, Tryd.ntmps21
      go_wp2_with fail
      go_ret
      exact ⟨by rw [E.out]; rfl, rfl⟩
def zeros60 : List UInt8 := List.replicate 60 48
theorem numS_len (kk bg : List Int) (a : ByteArray) (ka : List Int) (b : ByteArray) (kb : List Int) (h : twoErr a.size b.size = 0) : (numS kk bg a ka b kb).length = 71 := by
  unfold numS; rw [if_pos h, gaps_len _ (jnS_len _ _ _ _ _ _ h) 11 (by decide)]
theorem numS_nil (kk bg : List Int) (a : ByteArray) (ka : List Int) (b : ByteArray) (kb : List Int) (h : ¬ twoErr a.size b.size = 0) : numS kk bg a ka b kb = [] := by
  unfold numS; rw [if_neg h]
set_option maxRecDepth 100000 in
set_option maxHeartbeats 2000000 in
theorem names_any (kk bg : List Int) (a b : ByteArray) (key : List Int) (w : World) (hT : Tabs kk bg w) (ha : a.size ≤ 140737488351232) (hb : b.size ≤ 140737488351232) (hkey : key.length = 32) :
    Calls Tryd.prog 7 #[.string a, .string b, .agg (u8s key)] w fun e w' => e = .returned (.bool true) ∧ Kp [] w w' := by
  have HT := Lib.hid hT
  have HZ : Hid ((u8s key).size = 32) := Lib.hid (by rw [u8s_size, hkey])
  have HCA := Lib.hid (fun W => code_any a W ha)
  have HCB := Lib.hid (fun W => code_any b W hb)
  have HHA := Lib.hid (fun W hW => half_any kk bg a key hkey W hW ha)
  have HNU := Lib.hid (fun W hW => number_any kk bg a key b key hkey hkey W hW ha hb)
  have HMZ : Hid (∀ W, Tabs kk bg W → Calls Tryd.prog 19 #[.string ⟨#[48, 48, 48, 48, 48, 48, 48, 48, 48, 48, 48, 48, 48, 48, 48, 48, 48, 48, 48, 48, 48, 48, 48, 48, 48, 48, 48, 48, 48, 48, 48, 48, 48, 48, 48, 48, 48, 48, 48, 48, 48, 48, 48, 48, 48, 48, 48, 48, 48, 48, 48, 48, 48, 48, 48, 48, 48, 48, 48, 48]⟩, .string a, .agg (u8s key), .string b, .agg (u8s key)] W fun e w' => e = .returned (.tuple #[.bool (mtB kk bg (strOf zeros60) a key b key), .int .i64 (twoErr a.size b.size)]) ∧ Kp [] W w') := Lib.hid (fun W hW => by
    have h := match_any kk bg (strOf zeros60) a key b key hkey hkey W hW (by rw [strOf_size]; decide) ha hb
    rw [show mtErr (strOf zeros60).data.toList a.size b.size = twoErr a.size b.size by rw [strOf_toList]; unfold mtErr; rw [if_pos (by decide +kernel)]] at h
    exact h)
  have HMO : Hid (∀ W, Tabs kk bg W → Calls Tryd.prog 19 #[.string ⟨#[48]⟩, .string a, .agg (u8s key), .string b, .agg (u8s key)] W fun e w' => e = .returned (.tuple #[.bool (mtB kk bg (strOf [48]) a key b key), .int .i64 250]) ∧ Kp [] W w') := Lib.hid (fun W hW => by
    have h := match_any kk bg (strOf [48]) a key b key hkey hkey W hW (by rw [strOf_size]; decide) ha hb
    rw [show mtErr (strOf [48]).data.toList a.size b.size = 250 by rw [strOf_toList]; unfold mtErr; rw [if_neg (by decide +kernel)]; decide +kernel] at h
    exact h)
  have HNM : Hid (∀ W, Tabs kk bg W → Calls Tryd.prog 16 #[.string ⟨#[109, 101]⟩, .agg (u8s key), .string ⟨#[121, 111, 117]⟩, .agg (u8s key)] W fun e w' => e = .returned (.tuple #[.string (strOf (numS kk bg (strOf [109, 101]) key (strOf [121, 111, 117]) key)), .int .i64 0]) ∧ Kp [] W w') := Lib.hid (fun W hW => by
    have h := number_any kk bg (strOf [109, 101]) key (strOf [121, 111, 117]) key hkey hkey W hW (by rw [strOf_size]; decide) (by rw [strOf_size]; decide)
    rw [show twoErr (strOf [109, 101]).size (strOf [121, 111, 117]).size = 0 by rw [strOf_size, strOf_size]; decide] at h
    exact h)
  have hml : (strOf (numS kk bg (strOf [109, 101]) key (strOf [121, 111, 117]) key)).size = 71 := by rw [strOf_size, numS_len]; rw [strOf_size, strOf_size]; decide
  have hm71 : (((strOf (numS kk bg (strOf [109, 101]) key (strOf [121, 111, 117]) key)).size : Int) == 71) = true := by rw [hml]; rfl
  have HE : Hid (twoErr a.size b.size = if nameErr a.size = 0 then nameErr b.size else nameErr a.size) := Lib.hid rfl
  have hnum : ¬ twoErr a.size b.size = 0 → (strOf (numS kk bg a key b key)).toList.isEmpty = true ∧ mtB kk bg (strOf zeros60) a key b key = false := fun h => by
    rw [numS_nil _ _ _ _ _ _ h]
    refine ⟨str_empty _ (by rw [strOf_size]; rfl), ?_⟩
    unfold mtB
    rw [show mtErr (strOf zeros60).data.toList a.size b.size = twoErr a.size b.size by rw [strOf_toList]; unfold mtErr; rw [if_pos (by decide +kernel)]]
    simp [h]
  have HNUM := Lib.hid hnum
  clear hnum hml
  generalize mtB kk bg (strOf zeros60) a key b key = MB at *
  generalize mtB kk bg (strOf [48]) a key b key = MO at *
  generalize numS kk bg (strOf [109, 101]) key (strOf [121, 111, 117]) key = NM at *
  generalize numS kk bg a key b key = NU at *
  generalize halfS kk bg a key = HA at *
  generalize twoErr a.size b.size = E at *
  have h0 : (w.alloc (.cells (u8s key) 23)).heap[w.heap.size]? = some (.cells (u8s key) 23 (0, 0)) := heap_alloc_new w _
  have k0 : Kp [] w (w.alloc (.cells (u8s key) 23)) := (Kp.refl [] w).alloc _
  generalize nameErr a.size = E1 at *
  generalize nameErr b.size = E2 at *
  clear hT
  by_cases h1 : E1 = 0
  · have HEE : Hid (E = E2) := Lib.hid (HE.out.trans (if_pos h1))
    subst h1
    by_cases h2 : E2 = 0
    · subst h2
      obtain rfl : E = 0 := HEE.out
      go_enter Tryd.func7, Tryd.ntmps7
      go_wp2_with (first
      | (refine wpList_load_row (by rfl) 23 (.tmp 5) (by rfl) w.heap.size (by rfl) 23 (u8s key) (0, 0) _ (by assumption) Tryd.underlying23 rfl (by rw [HZ.out]; kernel_rfl) ?_)
      | (go_at_call 21; (with_reducible refine (HCA.out _).mono ?_); rintro e w' ⟨rfl, rfl⟩)
      | (go_at_call 21; (with_reducible refine (HCB.out _).mono ?_); rintro e w' ⟨rfl, rfl⟩)
      | (go_at_call 14; (with_reducible refine (HHA.out _ (HT.out.kp (by assumption))).mono ?_); rintro e wN ⟨rfl, h⟩; have kN : Kp [] w wN := Kp.trans0 (by assumption) h; have hN0 : wN.heap[w.heap.size]? = some (.cells (u8s key) 23 (0, 0)) := h.heap (by assumption) (by simp); clear h)
      | (go_at_call 16; (with_reducible refine (HNU.out _ (HT.out.kp (by assumption))).mono ?_); rintro e wN ⟨rfl, h⟩; have kN : Kp [] w wN := Kp.trans0 (by assumption) h; have hN0 : wN.heap[w.heap.size]? = some (.cells (u8s key) 23 (0, 0)) := h.heap (by assumption) (by simp); clear h)
      | (go_at_call 19; (with_reducible refine (HMZ.out _ (HT.out.kp (by assumption))).mono ?_); rintro e wN ⟨rfl, h⟩; have kN : Kp [] w wN := Kp.trans0 (by assumption) h; have hN0 : wN.heap[w.heap.size]? = some (.cells (u8s key) 23 (0, 0)) := h.heap (by assumption) (by simp); clear h)
      | (go_at_call 19; (with_reducible refine (HMO.out _ (HT.out.kp (by assumption))).mono ?_); rintro e wN ⟨rfl, h⟩; have kN : Kp [] w wN := Kp.trans0 (by assumption) h; have hN0 : wN.heap[w.heap.size]? = some (.cells (u8s key) 23 (0, 0)) := h.heap (by assumption) (by simp); clear h)
      | (go_at_call 16; (with_reducible refine (HNM.out _ (HT.out.kp (by assumption))).mono ?_); rintro e wN ⟨rfl, h⟩; have kN : Kp [] w wN := Kp.trans0 (by assumption) h; have hN0 : wN.heap[w.heap.size]? = some (.cells (u8s key) 23 (0, 0)) := h.heap (by assumption) (by simp); clear h))
      go_ret
      exact ⟨rfl, by assumption⟩
    · obtain rfl : E = E2 := HEE.out
      obtain ⟨hn1, rfl⟩ := HNUM.out h2
      have hb1 : (E == 0) = false := by rw [beq_eq_false_iff_ne]; exact h2
      clear h2
      go_enter Tryd.func7, Tryd.ntmps7
      go_wp2_with (first
      | (refine wpList_load_row (by rfl) 23 (.tmp 5) (by rfl) w.heap.size (by rfl) 23 (u8s key) (0, 0) _ (by assumption) Tryd.underlying23 rfl (by rw [HZ.out]; kernel_rfl) ?_)
      | (go_at_call 21; (with_reducible refine (HCA.out _).mono ?_); rintro e w' ⟨rfl, rfl⟩)
      | (go_at_call 21; (with_reducible refine (HCB.out _).mono ?_); rintro e w' ⟨rfl, rfl⟩)
      | (go_at_call 14; (with_reducible refine (HHA.out _ (HT.out.kp (by assumption))).mono ?_); rintro e wN ⟨rfl, h⟩; have kN : Kp [] w wN := Kp.trans0 (by assumption) h; have hN0 : wN.heap[w.heap.size]? = some (.cells (u8s key) 23 (0, 0)) := h.heap (by assumption) (by simp); clear h)
      | (go_at_call 16; (with_reducible refine (HNU.out _ (HT.out.kp (by assumption))).mono ?_); rintro e wN ⟨rfl, h⟩; have kN : Kp [] w wN := Kp.trans0 (by assumption) h; have hN0 : wN.heap[w.heap.size]? = some (.cells (u8s key) 23 (0, 0)) := h.heap (by assumption) (by simp); clear h)
      | (go_at_call 19; (with_reducible refine (HMZ.out _ (HT.out.kp (by assumption))).mono ?_); rintro e wN ⟨rfl, h⟩; have kN : Kp [] w wN := Kp.trans0 (by assumption) h; have hN0 : wN.heap[w.heap.size]? = some (.cells (u8s key) 23 (0, 0)) := h.heap (by assumption) (by simp); clear h)
      | (go_at_call 19; (with_reducible refine (HMO.out _ (HT.out.kp (by assumption))).mono ?_); rintro e wN ⟨rfl, h⟩; have kN : Kp [] w wN := Kp.trans0 (by assumption) h; have hN0 : wN.heap[w.heap.size]? = some (.cells (u8s key) 23 (0, 0)) := h.heap (by assumption) (by simp); clear h)
      | (go_at_call 16; (with_reducible refine (HNM.out _ (HT.out.kp (by assumption))).mono ?_); rintro e wN ⟨rfl, h⟩; have kN : Kp [] w wN := Kp.trans0 (by assumption) h; have hN0 : wN.heap[w.heap.size]? = some (.cells (u8s key) 23 (0, 0)) := h.heap (by assumption) (by simp); clear h))
      go_ret
      exact ⟨rfl, by assumption⟩
  · obtain rfl : E = E1 := HE.out.trans (if_neg h1)
    obtain ⟨hn1, rfl⟩ := HNUM.out h1
    have hb1 : (E == 0) = false := by rw [beq_eq_false_iff_ne]; exact h1
    clear h1
    go_enter Tryd.func7, Tryd.ntmps7
    go_wp2_with (first
      | (refine wpList_load_row (by rfl) 23 (.tmp 5) (by rfl) w.heap.size (by rfl) 23 (u8s key) (0, 0) _ (by assumption) Tryd.underlying23 rfl (by rw [HZ.out]; kernel_rfl) ?_)
      | (go_at_call 21; (with_reducible refine (HCA.out _).mono ?_); rintro e w' ⟨rfl, rfl⟩)
      | (go_at_call 21; (with_reducible refine (HCB.out _).mono ?_); rintro e w' ⟨rfl, rfl⟩)
      | (go_at_call 14; (with_reducible refine (HHA.out _ (HT.out.kp (by assumption))).mono ?_); rintro e wN ⟨rfl, h⟩; have kN : Kp [] w wN := Kp.trans0 (by assumption) h; have hN0 : wN.heap[w.heap.size]? = some (.cells (u8s key) 23 (0, 0)) := h.heap (by assumption) (by simp); clear h)
      | (go_at_call 16; (with_reducible refine (HNU.out _ (HT.out.kp (by assumption))).mono ?_); rintro e wN ⟨rfl, h⟩; have kN : Kp [] w wN := Kp.trans0 (by assumption) h; have hN0 : wN.heap[w.heap.size]? = some (.cells (u8s key) 23 (0, 0)) := h.heap (by assumption) (by simp); clear h)
      | (go_at_call 19; (with_reducible refine (HMZ.out _ (HT.out.kp (by assumption))).mono ?_); rintro e wN ⟨rfl, h⟩; have kN : Kp [] w wN := Kp.trans0 (by assumption) h; have hN0 : wN.heap[w.heap.size]? = some (.cells (u8s key) 23 (0, 0)) := h.heap (by assumption) (by simp); clear h)
      | (go_at_call 19; (with_reducible refine (HMO.out _ (HT.out.kp (by assumption))).mono ?_); rintro e wN ⟨rfl, h⟩; have kN : Kp [] w wN := Kp.trans0 (by assumption) h; have hN0 : wN.heap[w.heap.size]? = some (.cells (u8s key) 23 (0, 0)) := h.heap (by assumption) (by simp); clear h)
      | (go_at_call 16; (with_reducible refine (HNM.out _ (HT.out.kp (by assumption))).mono ?_); rintro e wN ⟨rfl, h⟩; have kN : Kp [] w wN := Kp.trans0 (by assumption) h; have hN0 : wN.heap[w.heap.size]? = some (.cells (u8s key) 23 (0, 0)) := h.heap (by assumption) (by simp); clear h))
    go_ret
    exact ⟨rfl, by assumption⟩
end Go.Proofs.YtkceaepbjdfccaaDoor
