/-
Small things that several laws' walks share.
-/
import Derived.Test.YtkceaepbjdfccaaFld4
import Derived.Test.YtkceaepbjdfccaaFldPlain
namespace Go.Proofs.Ytkceaepbjdfccaa
open Go.RowKit
theorem run_subb_hm {P : Program} {t e : TypeId} {z : Value} {bytes : Nat} (E : El P t e z bytes) {ao : Option Addr} {n cap : Nat} {l : List UInt8} {w : World} (h : Rd w (.slice ao n cap) (bv l)) (k : Nat) (h1 : k ≤ n) :
    ∃ ao' n' cap', (∀ W, (Instr.sliceAt t (.slice ao n cap) none (some (.int .i64 (k : Int))) (some (.int .i64 (k : Int)))).run P W = .ok (.slice ao' n' cap') W) ∧ Rd w (.slice ao' n' cap') (bv (l.take k)) := by
  have hcap : n ≤ cap := by obtain ⟨_, _, he, hc, _⟩ := h; simp only [Value.slice.injEq] at he; omega
  have hl := h.len
  rw [bv_length] at hl
  have ht' : P.underlying t = some (.slice (P.elem t)) := by rw [E.elem]; exact E.ht
  refine ⟨if (k : Int).toNat = 0 then ao else ao.map (·.add (0 * 1)), (k : Int).toNat - 0, (k : Int).toNat - 0, fun W => ?_, ?_⟩
  · rw [run_sliceAt_slice W t _ _ _ _ ht', run_slice_hm W t ao n cap ht' .i64 .i64 k k (by omega) (by omega) (by omega), E.elem, E.szof]
    rfl
  · obtain ⟨ao', cap', he, hc, hn, hx⟩ := h
    simp only [Value.slice.injEq] at he
    obtain ⟨rfl, _, rfl⟩ := he
    have hlen : (bv (l.take k)).length = k := by rw [bv_length, List.length_take]; omega
    refine ⟨_, _, by rw [hlen]; simp only [Int.toNat_natCast, Nat.sub_zero]; rfl, by rw [hlen]; simp, fun hh => ?_, fun a ha i u hu => ?_⟩
    · split at hh
      · have := hn hh; omega
      · cases ao with
        | none => have := hn rfl; omega
        | some a => cases hh
    · have hi : i < k := by rw [← hlen]; exact (List.getElem?_eq_some_iff.1 hu).1
      have hget : (bv l)[i]? = some u := by
        unfold bv at hu ⊢
        rw [List.map_take, List.getElem?_take, if_pos hi] at hu
        exact hu
      split at ha
      · exact hx a ha i u hget
      · cases ao with
        | none => cases ha
        | some b =>
          simp only [Option.map_some, Option.some.injEq, Nat.zero_mul] at ha
          subst ha
          exact hx b rfl i u hget
theorem rest_nat (n m : Int) (h0 : 0 < m) (h1 : m ≤ 4611686018427387904) (w : World) :
    Calls Try.prog 13 #[.int .i64 n, .int .i64 m] w fun e w' => ∃ r : Nat, e = .returned (.int .i64 (r : Int)) ∧ (r : Int) < m ∧ w = w' := by
  refine (rest_any n m h0 h1 w).mono ?_
  rintro e w' ⟨rfl, rfl⟩
  have p := Int.emod_nonneg n (by omega : m ≠ 0)
  have q := Int.emod_lt_of_pos n h0
  exact ⟨(n % m).toNat, by rw [Int.toNat_of_nonneg p], by omega, rfl⟩
theorem encs_split (Fs : List Fld) (j : Nat) (h : j < Fs.length) (h2 : j < 20) : ∃ post, encs (Fs.take 20) = encs (Fs.take j) ++ enc Fs[j] ++ post := by
  refine ⟨encs ((Fs.take 20).drop (j + 1)), ?_⟩
  rw [← encs_snoc Fs j h]
  have e : Fs.take (j + 1) = (Fs.take 20).take (j + 1) := by rw [List.take_take, Nat.min_eq_left (by omega)]
  rw [e]
  unfold encs
  rw [← List.flatten_append, ← List.map_append, List.take_append_drop]
theorem left_eq (B p : Nat) (rv : Value) (b : List UInt8) (s : Rst) (w : World) (v : Int) (hR : Rr w B p rv b s) (hv : (b.length : Int) - s.at_ = v) :
    Calls Try.prog 26 #[.pointer (some ⟨p, 0, none⟩)] w fun e w' => e = .returned (.int .i64 v) ∧ ∃ n, w' = w.drewN n := by subst hv; exact left_any B p rv b s w hR
theorem fault_at (B p : Nat) (rv : Value) (b : List UInt8) (s : Rst) (w : World) (hR : Rr w B p rv b s) (hs : s.f = 0 → s.wh = 0) :
    Calls Try.prog 28 #[.pointer (some ⟨p, 0, none⟩)] w fun e w' => e = .returned (.tuple #[.int .i64 s.wh, .int .i64 s.f]) ∧ ∃ n, w' = w.drewN n := by
  by_cases h : s.f = 0
  · refine (rFault_ok B p rv b s w hR h).mono ?_
    rintro e w' ⟨rfl, rfl⟩
    exact ⟨by rw [h, hs h], 0, (w.drewN_zero).symm⟩
  · exact rFault_bad B p rv b s w hR h
end Go.Proofs.Ytkceaepbjdfccaa
