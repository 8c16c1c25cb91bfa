/-
The law's put: a field is written.
-/
import Derived.Test.YtkceaepbjdfccaaFld1
namespace Go.Proofs.Ytkceaepbjdfccaa
open Go.RowKit
theorem Wr.stable {W0 w : World} {B p : Nat} {most : Int} {ov : Value} {s : List UInt8 × Int} (hW : Wr w B p most ov s) (k0 : Kp [] W0 w) (hB0 : W0.heap.size ≤ B) : ∀ w', Kp (p :: ob ov) w w' → Kp [] W0 w' := fun _ k =>
  k0.trans k (fun m hm => .inr (by
    rcases List.mem_cons.1 hm with rfl | hm
    · exact Nat.le_trans hB0 hW.le
    · exact Nat.le_trans hB0 (hW.own.lt (mem_ob.1 hm)).1))
theorem withinE_of {n m : Int} (h0 : 0 ≤ n) (h1 : n < m) : withinE n m = 0 := by unfold withinE; rw [if_neg (by omega)]
set_option maxRecDepth 100000 in
set_option maxHeartbeats 1000000 in
theorem putF_any (W0 : World) (B p : Nat) (most : Int) (ov : Value) (s : List UInt8 × Int) (fv : Value) (F : Fld) (w : World) (hf : Fv W0 fv F) (k0 : Kp [] W0 w) (hW : Wr w B p most ov s) (hB0 : W0.heap.size ≤ B) (hB : B ≤ w.heap.size) :
    Calls Try.prog 30 #[.pointer (some ⟨p, 0, none⟩), fv] w (Put B p most ov (putL most s 0 (enc F)) w) := by
  obtain ⟨ao, cap, rfl, hx, hl⟩ := hf
  obtain ⟨kind, n, b⟩ := F
  simp only at hx hl ⊢
  have hk : kind % 5 = 0 ∨ kind % 5 = 1 ∨ kind % 5 = 2 ∨ kind % 5 = 3 ∨ kind % 5 = 4 := by omega
  have HX := Lib.hid hx
  have HW := Lib.hid hW
  have HB := Lib.hid hB
  have HST := Lib.hid (hW.stable k0 hB0)
  have K0 := Lib.hid k0
  have hb3 := sh_le b
  have h255 := i64_and255 n
  have h65535 := i64_and65535 n
  have h32 := i64_and32 n
  have m0 : 0 ≤ n % 256 := Int.emod_nonneg _ (by decide)
  have m1 : n % 256 < 256 := Int.emod_lt_of_pos _ (by decide)
  have m2 : 0 ≤ n % 65536 := Int.emod_nonneg _ (by decide)
  have m3 : n % 65536 < 65536 := Int.emod_lt_of_pos _ (by decide)
  have m4 : 0 ≤ n % 4294967296 := Int.emod_nonneg _ (by decide)
  have m5 : n % 4294967296 < 4294967296 := Int.emod_lt_of_pos _ (by decide)
  clear hx hW hB k0 hB0
  rcases hk with hk | hk | hk | hk | hk
  · have HE : Hid (putL most s 0 (enc ⟨kind, n, b⟩) = putL most s (withinE (n % 256) 256) [lo8 (n % 256)]) := Lib.hid (by rw [enc0 hk, withinE_of m0 m1])
    have HK := Lib.hid hk
    clear hk
    go_enter Try.func30, Try.ntmps30
    go_wp2_with fail
    refine (rest_eq kind 5 0 (by omega) (by omega) HK.out _).mono ?_
    rintro e w' ⟨rfl, rfl⟩
    go_wp2_with fail
    refine (wU8_any B p most ov s (n % 256) _ (HW.out.kp0 (by (repeat (first | exact Kp.refl _ _ | assumption | refine Kp.drewN ?_ _ | refine Kp.drew ?_ | refine Kp.alloc ?_ _ | refine Kp.trans0 ?_ (by assumption))))) (by simp; have := HB.out; omega)).mono ?_
    rintro r w' ⟨ov', rfl, h⟩
    go_wp2_with fail
    go_end0
    rw [HE.out]
    exact Put.later ((Kp.refl [] w).alloc _) ⟨ov', rfl, h⟩
  · have HE : Hid (putL most s 0 (enc ⟨kind, n, b⟩) = putL most s (withinE (n % 65536) 65536) (be16 (n % 65536))) := Lib.hid (by rw [enc1 hk, withinE_of m2 m3])
    have HK := Lib.hid hk
    clear hk
    go_enter Try.func30, Try.ntmps30
    go_wp2_with fail
    refine (rest_eq kind 5 1 (by omega) (by omega) HK.out _).mono ?_
    rintro e w' ⟨rfl, rfl⟩
    go_wp2_with fail
    refine (wU16_any B p most ov s (n % 65536) _ (HW.out.kp0 (by (repeat (first | exact Kp.refl _ _ | assumption | refine Kp.drewN ?_ _ | refine Kp.drew ?_ | refine Kp.alloc ?_ _ | refine Kp.trans0 ?_ (by assumption))))) (by simp; have := HB.out; omega)).mono ?_
    rintro r w' ⟨ov', rfl, h⟩
    go_wp2_with fail
    go_end0
    rw [HE.out]
    exact Put.later ((Kp.refl [] w).alloc _) ⟨ov', rfl, h⟩
  · have HE : Hid (putL most s 0 (enc ⟨kind, n, b⟩) = putL most s 0 (be32 (n % 4294967296))) := Lib.hid (by rw [enc2 hk])
    have HK := Lib.hid hk
    clear hk
    go_enter Try.func30, Try.ntmps30
    go_wp2_with fail
    refine (rest_eq kind 5 2 (by omega) (by omega) HK.out _).mono ?_
    rintro e w' ⟨rfl, rfl⟩
    go_wp2_with fail
    refine (wU32_any B p most ov s (n % 4294967296) m4 m5 _ (HW.out.kp0 (by (repeat (first | exact Kp.refl _ _ | assumption | refine Kp.drewN ?_ _ | refine Kp.drew ?_ | refine Kp.alloc ?_ _ | refine Kp.trans0 ?_ (by assumption))))) (by simp; have := HB.out; omega)).mono ?_
    rintro r w' ⟨ov', rfl, h⟩
    go_wp2_with fail
    go_end0
    rw [HE.out]
    exact Put.later ((Kp.refl [] w).alloc _) ⟨ov', rfl, h⟩
  · have HE : Hid (putL most s 0 (enc ⟨kind, n, b⟩) = putL most s 0 [sh b].flatten) := Lib.hid (by rw [enc3 hk]; simp)
    have HK := Lib.hid hk
    clear hk
    go_enter Try.func30, Try.ntmps30
    go_wp2_with fail
    refine (rest_eq kind 5 3 (by omega) (by omega) HK.out _).mono ?_
    rintro e w' ⟨rfl, rfl⟩
    go_wp2_with fail
    refine (short_any W0 ao cap b _ HX.out hl).mono ?_
    rintro e w' ⟨a1, c1, rfl, r1, rfl⟩
    have R1 := Lib.hid r1
    clear r1
    go_wp2_with fail
    refine (wFixed_any B p most ov s _ [sh b] _ (HW.out.kp0 (by (repeat (first | exact Kp.refl _ _ | assumption | refine Kp.drewN ?_ _ | refine Kp.drew ?_ | refine Kp.alloc ?_ _ | refine Kp.trans0 ?_ (by assumption))))) (by simp; have := HB.out; omega)
      (parts1 (x := .slice a1 (sh b).length c1) (T := 22) (by (repeat (first | (with_reducible refine hp_drew ?_) | (with_reducible refine hp_drewN ?_) | ((with_reducible refine hp_new ?_); (simp; done)) | ((with_reducible refine hp_old ?_ ?_); focus (first | (simp; done) | (simp; omega))) | refine Kp.heap (by assumption) ?_ (by simp) | assumption))) (HW.out.lt (by simp))
        (fun w' k => R1.out.kp0 (HST.out w' ((((Kp.refl (p :: ob ov) w).alloc _).alloc _).trans k (fun m hm => .inl hm)))))
      (by unfold flen; simp; omega) (by simp)).mono ?_
    rintro r w' ⟨ov', rfl, h⟩
    go_wp2_with fail
    go_end0
    rw [HE.out]
    exact Put.later (((Kp.refl [] w).alloc _).alloc _) ⟨ov', rfl, h⟩
  · have HE : Hid (putL most s 0 (enc ⟨kind, n, b⟩) = putL most s (if 65535 < (sh b).length then 12 else 0) (be16 ((sh b).length : Int) ++ sh b)) := Lib.hid (by rw [enc4 hk, if_neg (by omega)])
    have HK := Lib.hid hk
    clear hk
    go_enter Try.func30, Try.ntmps30
    go_wp2_with fail
    refine (rest_eq kind 5 4 (by omega) (by omega) HK.out _).mono ?_
    rintro e w' ⟨rfl, rfl⟩
    go_wp2_with fail
    refine (short_any W0 ao cap b _ HX.out hl).mono ?_
    rintro e w' ⟨a1, c1, rfl, r1, rfl⟩
    have R1 := Lib.hid r1
    clear r1
    go_wp2_with fail
    refine (wRun_any B p most ov s _ (sh b) _ (HW.out.kp0 (by (repeat (first | exact Kp.refl _ _ | assumption | refine Kp.drewN ?_ _ | refine Kp.drew ?_ | refine Kp.alloc ?_ _ | refine Kp.trans0 ?_ (by assumption))))) (by simp; have := HB.out; omega)
        (fun w' k => R1.out.kp0 (HST.out w' (((Kp.refl (p :: ob ov) w).alloc _).trans k (fun m hm => .inl hm))))
      (by omega)).mono ?_
    rintro r w' ⟨ov', rfl, h⟩
    go_wp2_with fail
    go_end0
    rw [HE.out]
    exact Put.later ((Kp.refl [] w).alloc _) ⟨ov', rfl, h⟩
end Go.Proofs.Ytkceaepbjdfccaa
