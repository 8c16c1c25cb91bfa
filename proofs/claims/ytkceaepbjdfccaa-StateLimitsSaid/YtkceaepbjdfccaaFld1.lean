/-
The law's own words on fields: short, size, put.
-/
import Derived.Test.YtkceaepbjdfccaaRead3
import Derived.Test.YtkceaepbjdfccaaWire2
namespace Go.Proofs.Ytkceaepbjdfccaa
open Go.RowKit
theorem i64_and255 (n : Int) : bits .and .i64 n 255 = n % 256 := by
  have h : (BitVec.ofInt 64 255).toNat = 2 ^ 8 - 1 := by decide
  have key : (BitVec.ofInt 64 n &&& BitVec.ofInt 64 255).toNat = (n % ((2 ^ 64 : Nat) : Int)).toNat % 2 ^ 8 := by
    rw [BitVec.toNat_and, BitVec.toNat_ofInt, h, Nat.and_two_pow_sub_one_eq_mod]
  show IntKind.i64.wrap ((BitVec.ofInt 64 n &&& BitVec.ofInt 64 255).toNat : Nat) = n % 256
  rw [key, IntKind.wrap_i64]
  omega
theorem i64_and65535 (n : Int) : bits .and .i64 n 65535 = n % 65536 := by
  have h : (BitVec.ofInt 64 65535).toNat = 2 ^ 16 - 1 := by decide
  have key : (BitVec.ofInt 64 n &&& BitVec.ofInt 64 65535).toNat = (n % ((2 ^ 64 : Nat) : Int)).toNat % 2 ^ 16 := by
    rw [BitVec.toNat_and, BitVec.toNat_ofInt, h, Nat.and_two_pow_sub_one_eq_mod]
  show IntKind.i64.wrap ((BitVec.ofInt 64 n &&& BitVec.ofInt 64 65535).toNat : Nat) = n % 65536
  rw [key, IntKind.wrap_i64]
  omega
theorem i64_and32 (n : Int) : bits .and .i64 n 4294967295 = n % 4294967296 := by
  have h : (BitVec.ofInt 64 4294967295).toNat = 2 ^ 32 - 1 := by decide
  have key : (BitVec.ofInt 64 n &&& BitVec.ofInt 64 4294967295).toNat = (n % ((2 ^ 64 : Nat) : Int)).toNat % 2 ^ 32 := by
    rw [BitVec.toNat_and, BitVec.toNat_ofInt, h, Nat.and_two_pow_sub_one_eq_mod]
  show IntKind.i64.wrap ((BitVec.ofInt 64 n &&& BitVec.ofInt 64 4294967295).toNat : Nat) = n % 4294967296
  rw [key, IntKind.wrap_i64]
  omega
/-- a field as data -/
structure Fld where
  kind : Int
  n : Int
  b : List UInt8
/-- a field's value -/
def Fv (W0 : World) (fv : Value) (F : Fld) : Prop := ∃ ao cap, fv = .agg #[.int .i64 F.kind, .int .i64 F.n, .slice ao F.b.length cap] ∧ Rd W0 (.slice ao F.b.length cap) (bv F.b) ∧ F.b.length ≤ 140737488351232
/-- its first 300 bytes -/
def sh (l : List UInt8) : List UInt8 := l.take 300
theorem sh_le (l : List UInt8) : (sh l).length ≤ 300 := by unfold sh; simp; omega
/-- a field's bytes -/
def enc (F : Fld) : List UInt8 :=
  if F.kind % 5 = 0 then [lo8 (F.n % 256)] else if F.kind % 5 = 1 then be16 (F.n % 65536) else if F.kind % 5 = 2 then be32 (F.n % 4294967296)
  else if F.kind % 5 = 3 then sh F.b else be16 ((sh F.b).length : Int) ++ sh F.b
theorem enc0 {kind n : Int} {b : List UInt8} (h : kind % 5 = 0) : enc ⟨kind, n, b⟩ = [lo8 (n % 256)] := by unfold enc; simp [h]
theorem enc1 {kind n : Int} {b : List UInt8} (h : kind % 5 = 1) : enc ⟨kind, n, b⟩ = be16 (n % 65536) := by unfold enc; simp [h]
theorem enc2 {kind n : Int} {b : List UInt8} (h : kind % 5 = 2) : enc ⟨kind, n, b⟩ = be32 (n % 4294967296) := by unfold enc; simp [h]
theorem enc3 {kind n : Int} {b : List UInt8} (h : kind % 5 = 3) : enc ⟨kind, n, b⟩ = sh b := by unfold enc; simp [h]
theorem enc4 {kind n : Int} {b : List UInt8} (h : kind % 5 = 4) : enc ⟨kind, n, b⟩ = be16 ((sh b).length : Int) ++ sh b := by unfold enc; simp [h]
theorem enc_le (F : Fld) : (enc F).length ≤ 302 := by
  unfold enc be16 be32
  have := sh_le F.b
  split
  · simp
  · split
    · simp
    · split
      · simp
      · split
        · omega
        · simp only [List.length_append, List.length_cons, List.length_nil]; omega
theorem rest_eq (n m r : Int) (h0 : 0 < m) (h1 : m ≤ 4611686018427387904) (hr : n % m = r) (w : World) :
    Calls Try.prog 13 #[.int .i64 n, .int .i64 m] w fun e w' => e = .returned (.int .i64 r) ∧ w = w' := by
  subst hr; exact rest_any n m h0 h1 w
theorem run_fixed_h {P : Program} {t e : TypeId} {z : Value} {bytes : Nat} (E : El P t e z bytes) {ao : Option Addr} {n cap : Nat} {l : List UInt8} {w : World} (h : Rd w (.slice ao n cap) (bv l)) (hn : 300 ≤ n) :
    ∃ ao' cap', (∀ W, (Instr.sliceAt t (.slice ao n cap) none (some (.int .i64 300)) none).run P W = .ok (.slice ao' 300 cap') W) ∧ Rd w (.slice ao' 300 cap') (bv (l.take 300)) := by
  obtain ⟨ao', n', cap', h1, h2⟩ := run_subb_h E h 300 (by omega) (by omega)
  have hl := h.len
  have hn' := h2.len
  rw [bv_length] at hl hn'
  have e : n' = 300 := by rw [hn']; simp; omega
  subst e
  exact ⟨ao', cap', h1, h2⟩
set_option maxRecDepth 100000 in
set_option maxHeartbeats 400000 in
theorem short_any (W0 : World) (ao : Option Addr) (cap : Nat) (l : List UInt8) (w : World) (hx : Rd W0 (.slice ao l.length cap) (bv l)) (hl : l.length ≤ 140737488351232) :
    Calls Try.prog 52 #[.slice ao l.length cap] w fun e w' => ∃ ao' cap', e = .returned (.slice ao' (sh l).length cap') ∧ Rd W0 (.slice ao' (sh l).length cap') (bv (sh l)) ∧ w = w' := by
  by_cases h : 300 < l.length
  · obtain ⟨a1, c1, s1, r1⟩ := run_fixed_h el_u8 hx (by omega)
    have e : (sh l).length = 300 := by unfold sh; simp; omega
    have R1 := Lib.hid r1
    have E := Lib.hid e
    clear r1 e hx
    go_enter Try.func52, Try.ntmps52
    go_wp2_with fail
    go_ret
    exact ⟨a1, c1, by rw [E.out]; rfl, by rw [E.out]; exact R1.out, rfl⟩
  · have e : sh l = l := List.take_of_length_le (by omega)
    have E := Lib.hid e
    have R1 := Lib.hid hx
    clear e hx
    go_enter Try.func52, Try.ntmps52
    go_wp2_with fail
    go_ret
    exact ⟨ao, cap, by rw [E.out]; rfl, by rw [E.out]; exact R1.out, rfl⟩
set_option maxRecDepth 100000 in
set_option maxHeartbeats 400000 in
theorem size_any (W0 : World) (fv : Value) (F : Fld) (w : World) (hf : Fv W0 fv F) :
    Calls Try.prog 25 #[fv] w fun e w' => e = .returned (.int .i64 ((enc F).length : Int)) ∧ Kp [] w w' := by
  obtain ⟨ao, cap, rfl, hx, hl⟩ := hf
  obtain ⟨kind, n, b⟩ := F
  simp only at hx hl ⊢
  have hk : kind % 5 = 0 ∨ kind % 5 = 1 ∨ kind % 5 = 2 ∨ kind % 5 = 3 ∨ kind % 5 = 4 := by omega
  have HX := Lib.hid hx
  have hb3 := sh_le b
  clear hx
  rcases hk with hk | hk | hk | hk | hk
  · have HE : Hid ((enc ⟨kind, n, b⟩).length = 1) := Lib.hid (by rw [enc0 hk]; rfl)
    have HK := Lib.hid hk
    clear hk
    go_enter Try.func25, Try.ntmps25
    go_wp2_with fail
    refine (rest_eq kind 5 0 (by omega) (by omega) HK.out _).mono ?_
    rintro e w' ⟨rfl, rfl⟩
    go_wp2_with fail
    go_ret
    exact ⟨by rw [HE.out]; rfl, (Kp.refl [] w).alloc _⟩
  · have HE : Hid ((enc ⟨kind, n, b⟩).length = 2) := Lib.hid (by rw [enc1 hk]; rfl)
    have HK := Lib.hid hk
    clear hk
    go_enter Try.func25, Try.ntmps25
    go_wp2_with fail
    refine (rest_eq kind 5 1 (by omega) (by omega) HK.out _).mono ?_
    rintro e w' ⟨rfl, rfl⟩
    go_wp2_with fail
    go_ret
    exact ⟨by rw [HE.out]; rfl, (Kp.refl [] w).alloc _⟩
  · have HE : Hid ((enc ⟨kind, n, b⟩).length = 4) := Lib.hid (by rw [enc2 hk]; rfl)
    have HK := Lib.hid hk
    clear hk
    go_enter Try.func25, Try.ntmps25
    go_wp2_with fail
    refine (rest_eq kind 5 2 (by omega) (by omega) HK.out _).mono ?_
    rintro e w' ⟨rfl, rfl⟩
    go_wp2_with fail
    go_ret
    exact ⟨by rw [HE.out]; rfl, (Kp.refl [] w).alloc _⟩
  · have HE : Hid ((enc ⟨kind, n, b⟩).length = (sh b).length) := Lib.hid (by rw [enc3 hk])
    have HK := Lib.hid hk
    clear hk
    go_enter Try.func25, Try.ntmps25
    go_wp2_with fail
    refine (rest_eq kind 5 3 (by omega) (by omega) HK.out _).mono ?_
    rintro e w' ⟨rfl, rfl⟩
    go_wp2_with fail
    refine (short_any W0 ao cap b _ HX.out hl).mono ?_
    rintro e w' ⟨a1, c1, rfl, r1, rfl⟩
    clear r1
    generalize hQ : (sh b).length = Q at *
    clear hQ
    go_wp2_with fail
    go_ret
    exact ⟨by rw [HE.out]; rfl, (Kp.refl [] w).alloc _⟩
  · have HE : Hid ((enc ⟨kind, n, b⟩).length = 2 + (sh b).length) := Lib.hid (by rw [enc4 hk]; simp only [List.length_append, be16, List.length_cons, List.length_nil])
    have HK := Lib.hid hk
    clear hk
    go_enter Try.func25, Try.ntmps25
    go_wp2_with fail
    refine (rest_eq kind 5 4 (by omega) (by omega) HK.out _).mono ?_
    rintro e w' ⟨rfl, rfl⟩
    go_wp2_with fail
    refine (short_any W0 ao cap b _ HX.out hl).mono ?_
    rintro e w' ⟨a1, c1, rfl, r1, rfl⟩
    clear r1
    generalize hQ : (sh b).length = Q at *
    clear hQ
    go_wp2_with fail
    go_ret
    exact ⟨by rw [HE.out, show ((2 + Q : Nat) : Int) = 2 + (Q : Int) by omega]; rfl, (Kp.refl [] w).alloc _⟩
end Go.Proofs.Ytkceaepbjdfccaa
