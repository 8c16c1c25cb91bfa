/-
The law's got: a field is read.
-/
import Derived.Test.YtkceaepbjdfccaaFld1
namespace Go.Proofs.Ytkceaepbjdfccaa
open Go.RowKit
/-- is the field read the one that was written? and where the reader stands then -/
def gotL (b : List UInt8) (s : Rst) (F : Fld) : Bool × Rst :=
  if F.kind % 5 = 0 then (numL (fieldL b s 0 1).1 == F.n % 256, (fieldL b s 0 1).2)
  else if F.kind % 5 = 1 then (numL (fieldL b s 0 2).1 == F.n % 65536, (fieldL b s 0 2).2)
  else if F.kind % 5 = 2 then (numL (fieldL b s 0 4).1 == F.n % 4294967296, (fieldL b s 0 4).2)
  else if F.kind % 5 = 3 then (decide ((fieldL b s 0 ((sh F.b).length : Int)).1 = sh F.b), (fieldL b s 0 ((sh F.b).length : Int)).2)
  else (decide ((runL b s 300).1 = sh F.b), (runL b s 300).2)
theorem got0 {b : List UInt8} {s : Rst} {kind n : Int} {fb : List UInt8} (h : kind % 5 = 0) : gotL b s ⟨kind, n, fb⟩ = (numL (fieldL b s 0 1).1 == n % 256, (fieldL b s 0 1).2) := by unfold gotL; simp [h]
theorem got1 {b : List UInt8} {s : Rst} {kind n : Int} {fb : List UInt8} (h : kind % 5 = 1) : gotL b s ⟨kind, n, fb⟩ = (numL (fieldL b s 0 2).1 == n % 65536, (fieldL b s 0 2).2) := by unfold gotL; simp [h]
theorem got2 {b : List UInt8} {s : Rst} {kind n : Int} {fb : List UInt8} (h : kind % 5 = 2) : gotL b s ⟨kind, n, fb⟩ = (numL (fieldL b s 0 4).1 == n % 4294967296, (fieldL b s 0 4).2) := by unfold gotL; simp [h]
theorem got3 {b : List UInt8} {s : Rst} {kind n : Int} {fb : List UInt8} (h : kind % 5 = 3) : gotL b s ⟨kind, n, fb⟩ = (decide ((fieldL b s 0 ((sh fb).length : Int)).1 = sh fb), (fieldL b s 0 ((sh fb).length : Int)).2) := by unfold gotL; simp [h]
theorem got4 {b : List UInt8} {s : Rst} {kind n : Int} {fb : List UInt8} (h : kind % 5 = 4) : gotL b s ⟨kind, n, fb⟩ = (decide ((runL b s 300).1 = sh fb), (runL b s 300).2) := by unfold gotL; simp [h]
set_option maxRecDepth 100000 in
set_option maxHeartbeats 1000000 in
theorem gotF_any (W0 : World) (B p : Nat) (rv : Value) (b : List UInt8) (s : Rst) (fv : Value) (F : Fld) (w : World) (hf : Fv W0 fv F) (k0 : Kp [] W0 w) (hR : Rr w B p rv b s) (hB0 : W0.heap.size ≤ B) :
    Calls Try.prog 24 #[.pointer (some ⟨p, 0, none⟩), fv] w fun e w' => e = .returned (.bool (gotL b s F).1) ∧ Rr w' B p rv b (gotL b s F).2 ∧ Kp [p] w w' := by
  obtain ⟨ao, cap, rfl, hx, hl⟩ := hf
  obtain ⟨kind, n, fb⟩ := F
  simp only at hx hl ⊢
  have hk : kind % 5 = 0 ∨ kind % 5 = 1 ∨ kind % 5 = 2 ∨ kind % 5 = 3 ∨ kind % 5 = 4 := by omega
  have HX := Lib.hid hx
  have HP : Hid (p < w.heap.size) := Lib.hid hR.lt
  have KA : Hid (Kp [p] w (w.alloc (.cells #[.int .i64 kind, .int .i64 n, .slice ao fb.length cap] 57))) := Lib.hid ((Kp.refl [p] w).alloc _)
  have KA0 : Hid (Kp [] w (w.alloc (.cells #[.int .i64 kind, .int .i64 n, .slice ao fb.length cap] 57))) := Lib.hid ((Kp.refl [] w).alloc _)
  have HR : Hid (Rr (w.alloc (.cells #[.int .i64 kind, .int .i64 n, .slice ao fb.length cap] 57)) B p rv b s) := Lib.hid (hR.kp0 ((Kp.refl [] w).alloc _))
  have gc1 : Hid ((w.alloc (.cells #[.int .i64 kind, .int .i64 n, .slice ao fb.length cap] 57)).cell? ⟨w.heap.size, 1, none⟩ = some (.int .i64 n)) := Lib.hid (by simp)
  have gc2 : Hid ((w.alloc (.cells #[.int .i64 kind, .int .i64 n, .slice ao fb.length cap] 57)).cell? ⟨w.heap.size, 2, none⟩ = some (.slice ao fb.length cap)) := Lib.hid (by simp)
  have hnp : Hid (w.heap.size ∉ [p]) := Lib.hid (by rw [List.mem_singleton]; have := HP.out; omega)
  have HST : Hid (∀ w', Kp [p] (w.alloc (.cells #[.int .i64 kind, .int .i64 n, .slice ao fb.length cap] 57)) w' → Kp [] W0 w') := Lib.hid (fun w' k => (k0.alloc _).trans k (fun m hm => .inr (by rw [List.mem_singleton] at hm; subst hm; exact Nat.le_trans hB0 hR.le)))
  have hb3 := sh_le fb
  have h255 := i64_and255 n
  have h65535 := i64_and65535 n
  have h32 := i64_and32 n
  have m0 : 0 ≤ n % 256 := Int.emod_nonneg _ (by decide)
  have m1 : n % 256 < 256 := Int.emod_lt_of_pos _ (by decide)
  have m2 : 0 ≤ n % 65536 := Int.emod_nonneg _ (by decide)
  have m3 : n % 65536 < 65536 := Int.emod_lt_of_pos _ (by decide)
  have m4 : 0 ≤ n % 4294967296 := Int.emod_nonneg _ (by decide)
  have m5 : n % 4294967296 < 4294967296 := Int.emod_lt_of_pos _ (by decide)
  have hw32 : IntKind.u32.wrap (n % 4294967296) = n % 4294967296 := by rw [IntKind.wrap_u32]; omega
  clear hx hR k0
  rcases hk with hk | hk | hk | hk | hk
  · have HE := Lib.hid (got0 (b := b) (s := s) (n := n) (fb := fb) hk)
    have HK := Lib.hid hk
    have hnum := numL_lo (fieldL b s 0 1).1
    clear hk
    go_enter Try.func24, Try.ntmps24
    go_wp2_with fail
    refine (rest_eq kind 5 0 (by omega) (by omega) HK.out _).mono ?_
    rintro e w' ⟨rfl, rfl⟩
    go_wp2_with fail
    generalize w.alloc (.cells #[.int .i64 kind, .int .i64 n, .slice ao fb.length cap] 57) = W at *
    have g1 := gc1.out
    go_region_held3 (fun w' => w'.cell? ⟨w.heap.size, 1, none⟩ = some (.int .i64 n)) (go_keep)
      (first | (go_at_call 38; go_must (refine (rU8_any B p rv b s _ (HR.out.kp0 (by (repeat (first | exact Kp.refl _ _ | assumption | refine Kp.drewN ?_ _ | refine Kp.drew ?_ | refine Kp.alloc ?_ _ | refine Kp.trans0 ?_ (by assumption)))))).mono ?_); rintro e wj ⟨rfl, hr, k⟩; have HRJ := Lib.hid hr; clear hr; have c1 : wj.cell? ⟨w.heap.size, 1, none⟩ = some (.int .i64 n) := k.cell_some (by simpa using g1) hnp.out))
    go_wp2_with fail
    go_ret
    exact ⟨by rw [HE.out]; rfl, by rw [HE.out]; exact HRJ.out, (KA.out.drew).trans k (fun m hm => .inl hm)⟩
  · have HE := Lib.hid (got1 (b := b) (s := s) (n := n) (fb := fb) hk)
    have HK := Lib.hid hk
    have hnum := numL_lo (fieldL b s 0 2).1
    clear hk
    go_enter Try.func24, Try.ntmps24
    go_wp2_with fail
    refine (rest_eq kind 5 1 (by omega) (by omega) HK.out _).mono ?_
    rintro e w' ⟨rfl, rfl⟩
    go_wp2_with fail
    generalize w.alloc (.cells #[.int .i64 kind, .int .i64 n, .slice ao fb.length cap] 57) = W at *
    have g1 := gc1.out
    go_region_held3 (fun w' => w'.cell? ⟨w.heap.size, 1, none⟩ = some (.int .i64 n)) (go_keep)
      (first | (go_at_call 39; go_must (refine (rU16_any B p rv b s _ (HR.out.kp0 (by (repeat (first | exact Kp.refl _ _ | assumption | refine Kp.drewN ?_ _ | refine Kp.drew ?_ | refine Kp.alloc ?_ _ | refine Kp.trans0 ?_ (by assumption)))))).mono ?_); rintro e wj ⟨rfl, hr, k⟩; have HRJ := Lib.hid hr; clear hr; have c1 : wj.cell? ⟨w.heap.size, 1, none⟩ = some (.int .i64 n) := k.cell_some (by simpa using g1) hnp.out))
    go_wp2_with fail
    go_ret
    exact ⟨by rw [HE.out]; rfl, by rw [HE.out]; exact HRJ.out, (KA.out.drew).trans k (fun m hm => .inl hm)⟩
  · have HE := Lib.hid (got2 (b := b) (s := s) (n := n) (fb := fb) hk)
    have HK := Lib.hid hk
    have hnum := numL_lo (fieldL b s 0 4).1
    clear hk
    go_enter Try.func24, Try.ntmps24
    go_wp2_with fail
    refine (rest_eq kind 5 2 (by omega) (by omega) HK.out _).mono ?_
    rintro e w' ⟨rfl, rfl⟩
    go_wp2_with fail
    generalize w.alloc (.cells #[.int .i64 kind, .int .i64 n, .slice ao fb.length cap] 57) = W at *
    have g1 := gc1.out
    go_region_held3 (fun w' => w'.cell? ⟨w.heap.size, 1, none⟩ = some (.int .i64 n)) (go_keep)
      (first | (go_at_call 40; go_must (refine (rU32_any B p rv b s _ (HR.out.kp0 (by (repeat (first | exact Kp.refl _ _ | assumption | refine Kp.drewN ?_ _ | refine Kp.drew ?_ | refine Kp.alloc ?_ _ | refine Kp.trans0 ?_ (by assumption)))))).mono ?_); rintro e wj ⟨rfl, hr, k⟩; have HRJ := Lib.hid hr; clear hr; have c1 : wj.cell? ⟨w.heap.size, 1, none⟩ = some (.int .i64 n) := k.cell_some (by simpa using g1) hnp.out))
    go_wp2_with fail
    go_ret
    exact ⟨by rw [HE.out]; rfl, by rw [HE.out]; exact HRJ.out, (KA.out.drew).trans k (fun m hm => .inl hm)⟩
  · have HE := Lib.hid (got3 (b := b) (s := s) (n := n) (fb := fb) hk)
    have HK := Lib.hid hk
    clear hk
    go_enter Try.func24, Try.ntmps24
    go_wp2_with fail
    refine (rest_eq kind 5 3 (by omega) (by omega) HK.out _).mono ?_
    rintro e w' ⟨rfl, rfl⟩
    go_wp2_with fail
    generalize w.alloc (.cells #[.int .i64 kind, .int .i64 n, .slice ao fb.length cap] 57) = W at *
    have g2 := gc2.out
    have tok1 : True := trivial
    go_region_held3 (fun w' => w'.cell? ⟨w.heap.size, 2, none⟩ = some (.slice ao fb.length cap)) (go_keep)
      (first
        | (go_at_call 52; have _t := tok1; clear _t tok1; go_must (refine (short_any W0 ao cap fb _ HX.out hl).mono ?_); rintro e w' ⟨a1, c1, rfl, r1, rfl⟩; have R1 := Lib.hid r1; clear r1)
        | (go_at_call 52; go_must (refine (short_any W0 ao cap fb _ HX.out hl).mono ?_); rintro e w' ⟨a2, c2, rfl, r2, rfl⟩; have R2 := Lib.hid r2; clear r2)
        | (go_at_call 36; go_must (refine (rFixed_any B p rv b s ((sh fb).length : Int) _ (HR.out.kp0 (by (repeat (first | exact Kp.refl _ _ | assumption | refine Kp.drewN ?_ _ | refine Kp.drew ?_ | refine Kp.alloc ?_ _ | refine Kp.trans0 ?_ (by assumption))))) (by omega)).mono ?_); rintro e wj ⟨v', rfl, ho, hr, k⟩; have HO := Lib.hid ho; have HRJ := Lib.hid hr; clear ho hr; have g3 : wj.cell? ⟨w.heap.size, 2, none⟩ = some (.slice ao fb.length cap) := k.cell_some (by simpa using g2) hnp.out)
        | (go_at_call 12; go_must (refine (eq_any _ _ _ (sh fb) _ (HO.out.rd.kp0 (by (repeat (first | exact Kp.refl _ _ | assumption | refine Kp.drewN ?_ _ | refine Kp.drew ?_ | refine Kp.alloc ?_ _ | refine Kp.trans0 ?_ (by assumption))))) (R2.out.kp0 ((HST.out wj (((Kp.refl [p] W).drew).trans k (fun m hm => .inl hm))).trans0 (by (repeat (first | exact Kp.refl _ _ | assumption | refine Kp.drewN ?_ _ | refine Kp.drew ?_ | refine Kp.alloc ?_ _ | refine Kp.trans0 ?_ (by assumption))))))).mono ?_); rintro e w' ⟨rfl, rfl⟩))
    all_goals go_wp2_with fail
    all_goals go_ret
    all_goals exact ⟨by rw [HE.out]; rfl, by rw [HE.out]; exact HRJ.out.kp0 (by (repeat (first | exact Kp.refl _ _ | assumption | refine Kp.drewN ?_ _ | refine Kp.drew ?_ | refine Kp.alloc ?_ _ | refine Kp.trans0 ?_ (by assumption)))), ((KA.out.drew).trans k (fun m hm => .inl hm)).trans0 (by (repeat (first | exact Kp.refl _ _ | assumption | refine Kp.drewN ?_ _ | refine Kp.drew ?_ | refine Kp.alloc ?_ _ | refine Kp.trans0 ?_ (by assumption))))⟩
  · have HE := Lib.hid (got4 (b := b) (s := s) (n := n) (fb := fb) hk)
    have HK := Lib.hid hk
    clear hk
    go_enter Try.func24, Try.ntmps24
    go_wp2_with fail
    refine (rest_eq kind 5 4 (by omega) (by omega) HK.out _).mono ?_
    rintro e w' ⟨rfl, rfl⟩
    go_wp2_with fail
    generalize w.alloc (.cells #[.int .i64 kind, .int .i64 n, .slice ao fb.length cap] 57) = W at *
    have g2 := gc2.out
    have tok1 : True := trivial
    go_region_held3 (fun w' => w'.cell? ⟨w.heap.size, 2, none⟩ = some (.slice ao fb.length cap)) (go_keep)
      (first
        | (go_at_call 52; have _t := tok1; clear _t tok1; go_must (refine (short_any W0 ao cap fb _ HX.out hl).mono ?_); rintro e w' ⟨a1, c1, rfl, r1, rfl⟩; have R1 := Lib.hid r1; clear r1)
        | (go_at_call 52; go_must (refine (short_any W0 ao cap fb _ HX.out hl).mono ?_); rintro e w' ⟨a2, c2, rfl, r2, rfl⟩; have R2 := Lib.hid r2; clear r2)
        | (go_at_call 37; go_must (refine (rRun_any B p rv b s 300 _ (HR.out.kp0 (by (repeat (first | exact Kp.refl _ _ | assumption | refine Kp.drewN ?_ _ | refine Kp.drew ?_ | refine Kp.alloc ?_ _ | refine Kp.trans0 ?_ (by assumption)))))).mono ?_); rintro e wj ⟨v', rfl, ho, hr, k⟩; have HO := Lib.hid ho; have HRJ := Lib.hid hr; clear ho hr; have g3 : wj.cell? ⟨w.heap.size, 2, none⟩ = some (.slice ao fb.length cap) := k.cell_some (by simpa using g2) hnp.out)
        | (go_at_call 12; go_must (refine (eq_any _ _ _ (sh fb) _ (HO.out.rd.kp0 (by (repeat (first | exact Kp.refl _ _ | assumption | refine Kp.drewN ?_ _ | refine Kp.drew ?_ | refine Kp.alloc ?_ _ | refine Kp.trans0 ?_ (by assumption))))) (R1.out.kp0 ((HST.out wj (((Kp.refl [p] W).drew).trans k (fun m hm => .inl hm))).trans0 (by (repeat (first | exact Kp.refl _ _ | assumption | refine Kp.drewN ?_ _ | refine Kp.drew ?_ | refine Kp.alloc ?_ _ | refine Kp.trans0 ?_ (by assumption))))))).mono ?_); rintro e w' ⟨rfl, rfl⟩))
    all_goals go_wp2_with fail
    all_goals go_ret
    all_goals exact ⟨by rw [HE.out]; rfl, by rw [HE.out]; exact HRJ.out.kp0 (by (repeat (first | exact Kp.refl _ _ | assumption | refine Kp.drewN ?_ _ | refine Kp.drew ?_ | refine Kp.alloc ?_ _ | refine Kp.trans0 ?_ (by assumption)))), ((KA.out.drew).trans k (fun m hm => .inl hm)).trans0 (by (repeat (first | exact Kp.refl _ _ | assumption | refine Kp.drewN ?_ _ | refine Kp.drew ?_ | refine Kp.alloc ?_ _ | refine Kp.trans0 ?_ (by assumption))))⟩
end Go.Proofs.Ytkceaepbjdfccaa
