/-
What DecodeLimits makes of limits that were encoded: whole, cut by a byte, with a byte behind.
-/
import Derived.Test.YtkceaepbjdfccaaLim3
namespace Go.Proofs.Ytkceaepbjdfccaa
open Go.RowKit
theorem decode_enc (l : Lim) (hl : l.fit) (hc : l.counter < 4294967296) (v : Value) (w : World) (hv : Rd w v (bv l.enc)) :
    Calls Try.prog 43 #[v] w fun e w' => e = .returned (.tuple #[l.v, .int .i64 0]) ∧ Kp [] w w' := by
  obtain ⟨peers, prekeys, skip, skips, outbox, counter⟩ := l
  have h := hl
  simp only [Lim.fit] at h
  refine (decodeLimits_any v _ w hv (by show 14 ≤ _; omega) ⟨peers, prekeys, skip, skips, outbox, counter⟩ ⟨2, 0, 0⟩ ⟨4, 0, 0⟩ ⟨6, 0, 0⟩ ⟨8, 0, 0⟩ ⟨10, 0, 0⟩ ⟨14, 0, 0⟩ rfl rfl rfl rfl rfl rfl
    (num16 peers (by omega) (by omega)) (num16 prekeys (by omega) (by omega)) (num16 skip (by omega) (by omega)) (num16 skips (by omega) (by omega)) (num16 outbox (by omega) (by omega)) (num32 counter (by omega) hc) (fun _ => hl)).mono ?_
  rintro e w' ⟨z, f, rfl, ⟨h1, _⟩ | ⟨_, rfl, rfl⟩, k⟩
  · exact (h1 rfl).elim
  · exact ⟨rfl, k⟩
theorem decode_cut (l : Lim) (hl : l.fit) (v : Value) (w : World) (hv : Rd w v (bv (l.enc.take 13))) :
    Calls Try.prog 43 #[v] w fun e w' => ∃ z : Lim, e = .returned (.tuple #[z.v, .int .i64 10]) ∧ Kp [] w w' := by
  obtain ⟨peers, prekeys, skip, skips, outbox, counter⟩ := l
  have h := hl
  simp only [Lim.fit] at h
  refine (decodeLimits_any v _ w hv (by show 13 ≤ _; omega) ⟨peers, prekeys, skip, skips, outbox, 0⟩ ⟨2, 0, 0⟩ ⟨4, 0, 0⟩ ⟨6, 0, 0⟩ ⟨8, 0, 0⟩ ⟨10, 0, 0⟩ ⟨10, 10, 10⟩ rfl rfl rfl rfl rfl rfl
    (num16 peers (by omega) (by omega)) (num16 prekeys (by omega) (by omega)) (num16 skip (by omega) (by omega)) (num16 skips (by omega) (by omega)) (num16 outbox (by omega) (by omega)) rfl (fun h => by cases h)).mono ?_
  rintro e w' ⟨z, f, rfl, ⟨_, rfl⟩ | ⟨h1, _⟩, k⟩
  · exact ⟨z, rfl, k⟩
  · cases h1
theorem decode_tail (l : Lim) (hl : l.fit) (hc : l.counter < 4294967296) (v : Value) (w : World) (hv : Rd w v (bv (l.enc ++ [0]))) :
    Calls Try.prog 43 #[v] w fun e w' => ∃ z : Lim, e = .returned (.tuple #[z.v, .int .i64 11]) ∧ Kp [] w w' := by
  obtain ⟨peers, prekeys, skip, skips, outbox, counter⟩ := l
  have h := hl
  simp only [Lim.fit] at h
  refine (decodeLimits_any v _ w hv (by show 15 ≤ _; omega) ⟨peers, prekeys, skip, skips, outbox, counter⟩ ⟨2, 0, 0⟩ ⟨4, 0, 0⟩ ⟨6, 0, 0⟩ ⟨8, 0, 0⟩ ⟨10, 0, 0⟩ ⟨14, 0, 0⟩ rfl rfl rfl rfl rfl rfl
    (num16 peers (by omega) (by omega)) (num16 prekeys (by omega) (by omega)) (num16 skip (by omega) (by omega)) (num16 skips (by omega) (by omega)) (num16 outbox (by omega) (by omega)) (num32 counter (by omega) hc) (fun _ => hl)).mono ?_
  rintro e w' ⟨z, f, rfl, ⟨_, rfl⟩ | ⟨h1, _⟩, k⟩
  · exact ⟨z, rfl, k⟩
  · cases h1
end Go.Proofs.Ytkceaepbjdfccaa
