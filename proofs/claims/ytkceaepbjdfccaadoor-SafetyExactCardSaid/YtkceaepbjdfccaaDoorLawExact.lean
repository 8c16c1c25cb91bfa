/-
lethelaw25.SafetyExact.
-/
import Derived.Test.YtkceaepbjdfccaaDoorExact1
namespace Go.Proofs.YtkceaepbjdfccaaDoor
open Go.RowKit
/-- calls lie one behind the other -/
def Sops (W : World) (ao : Option Addr) (F : List Sop) : Prop :=
  ∀ (i : Nat) (o : Sop), F[i]? = some o → ∃ b off, ao = some ⟨b, off, none⟩ ∧ W.rangeAt b (off + i * 68) o.cl ∧ o.ok
theorem Sops.kp {w w' : World} {ao : Option Addr} {F : List Sop} (h : Sops w ao F) (k : Kp [] w w') : Sops w' ao F := fun i o hi => by
  obtain ⟨b, off, h1, h2, h3⟩ := h i o hi
  exact ⟨b, off, h1, fun j v hv => k.cell_some (h2 j v hv) (by simp), h3⟩
/-- the three calls at the end -/
def opN : Sop := ⟨2, strOf [97], strOf [98], List.replicate 32 0, List.replicate 32 0, strOf []⟩
def opH : Sop := ⟨1, strOf [97], strOf [], List.replicate 32 0, List.replicate 32 0, strOf []⟩
def opR : Sop := ⟨3, strOf [], strOf [], List.replicate 32 0, List.replicate 32 0, strOf []⟩
theorem b8_zero (n : Nat) : ∀ x ∈ List.replicate n (0 : Int), B8 x := fun x hx => by
  rw [List.mem_replicate] at hx
  rw [hx.2]
  exact ⟨by decide, by decide⟩
theorem opN_ok : opN.ok := ⟨rfl, rfl, b8_zero 32, b8_zero 32, by decide, by decide, by decide⟩
theorem opH_ok : opH.ok := ⟨rfl, rfl, b8_zero 32, b8_zero 32, by decide, by decide, by decide⟩
theorem opR_ok : opR.ok := ⟨rfl, rfl, b8_zero 32, b8_zero 32, by decide, by decide, by decide⟩
set_option maxRecDepth 100000 in
set_option maxHeartbeats 1000000 in
theorem exact_any (kk bg : List Int) (ao : Option Addr) (cap : Nat) (F : List Sop) (w : World) (hT : Tabs kk bg w) (hR : Tabr kk bg w) (hv : Sops w ao F) (_ : F.length ≤ 140737488351232) :
    Calls Tryd.prog 4 #[.slice ao F.length cap] w fun e w' => e = .returned (.bool true) ∧ Kp [] w w' := by
  have HP : Hid (∀ W, Kp [] w W → ∀ o : Sop, o.ok → Calls Tryd.prog 15 #[.agg o.cl.toArray] W fun e w' => e = .returned (.bool true) ∧ Kp [] W w') := Lib.hid (fun W hW o ho => plays_any kk bg o ho W (hT.kp hW) (hR.kp hW))
  have HV := Lib.hid hv
  have HE : Hid (∀ W, Kp [] w W → Sops W ao F) := Lib.hid (fun W hW => hv.kp hW)
  have HK0 := Lib.hid (Kp.refl [] w)
  have HPN : Hid (∀ W, Kp [] w W → Calls Tryd.prog 15 #[.agg (((Tryd.zeroCells35.setIfInBounds 0 (.int .i64 2)).setIfInBounds 1 (.string ⟨#[97]⟩)).setIfInBounds 2 (.string ⟨#[98]⟩))] W fun e w' => e = .returned (.bool true) ∧ Kp [] W w') := Lib.hid (fun W hW => by
    rw [show ((Tryd.zeroCells35.setIfInBounds 0 (.int .i64 2)).setIfInBounds 1 (.string ⟨#[97]⟩)).setIfInBounds 2 (.string ⟨#[98]⟩) = opN.cl.toArray from by kernel_rfl]
    exact HP.out W hW opN opN_ok)
  have HPH : Hid (∀ W, Kp [] w W → Calls Tryd.prog 15 #[.agg ((Tryd.zeroCells35.setIfInBounds 0 (.int .i64 1)).setIfInBounds 1 (.string ⟨#[97]⟩))] W fun e w' => e = .returned (.bool true) ∧ Kp [] W w') := Lib.hid (fun W hW => by
    rw [show (Tryd.zeroCells35.setIfInBounds 0 (.int .i64 1)).setIfInBounds 1 (.string ⟨#[97]⟩) = opH.cl.toArray from by kernel_rfl]
    exact HP.out W hW opH opH_ok)
  have HPR : Hid (∀ W, Kp [] w W → Calls Tryd.prog 15 #[.agg (Tryd.zeroCells35.setIfInBounds 0 (.int .i64 3))] W fun e w' => e = .returned (.bool true) ∧ Kp [] W w') := Lib.hid (fun W hW => by
    rw [show Tryd.zeroCells35.setIfInBounds 0 (.int .i64 3) = opR.cl.toArray from by kernel_rfl]
    exact HP.out W hW opR opR_ok)
  clear hT hR hv
  go_enter Tryd.func4, Tryd.ntmps4
  go_wp2_with fail
  go_loopw [3] (fun i wr => ∃ k : Nat, k ≤ F.length ∧ k ≤ 20 ∧ i = .int .i64 k ∧ Hid (Kp [] w wr)) (fun i _ => 20 - (intOf i).toNat)
  case atStart => exact ⟨0, Nat.zero_le _, by decide, rfl, HK0⟩
  case round =>
    obtain ⟨k, hk, hk20, rfl, HR⟩ := hrel
    by_cases hlt : k < F.length
    · have hltI : (k : Int) < (F.length : Int) := by omega
      by_cases h20 : k < 20
      · have h20I : (k : Int) < 20 := by omega
        obtain ⟨b, off, hao, hc, hok⟩ := HE.out wr HR.out k F[k] (List.getElem?_eq_getElem hlt)
        subst hao
        have HC := Lib.hid hc
        have HOK := Lib.hid hok
        clear hc hok
        generalize F[k] = o at *
        go_wp2_with (first
          | (refine wpList_load_mid (by rfl) 35 (.tmp 17) (by rfl) b (off + k * 68) (by rfl) o.cl _ HC.out Tryd.underlying35 rfl (by rw [Sop.cl_len HOK.out]; kernel_rfl) ?_)
          | (go_at_call 15; go_must (refine (HP.out _ HR.out o HOK.out).mono ?_; rintro e w1 ⟨rfl, hk1⟩; have HK1 := Lib.hid (HR.out.trans0 hk1); clear hk1)))
        go_roundw
        case rel => exact ⟨k + 1, by omega, by omega, by go_num, HK1⟩
        case measure => simp [intOf]; omega
      · have h20I : ¬ (k : Int) < 20 := by omega
        clear HE HV
        go_wp2_with (first
          | (go_at_call 15; (with_reducible refine (HPN.out _ HR.out).mono ?_); rintro e w1 ⟨rfl, hk1⟩; have HK1 := Lib.hid (HR.out.trans0 hk1); clear hk1)
          | (go_at_call 15; (with_reducible refine (HPH.out _ HK1.out).mono ?_); rintro e w2 ⟨rfl, hk2⟩; have HK2 := Lib.hid (HK1.out.trans0 hk2); clear hk2)
          | (go_at_call 15; go_must (refine (HPR.out _ HK2.out).mono ?_; rintro e w3 ⟨rfl, hk3⟩; have HK3 := Lib.hid (HK2.out.trans0 hk3); clear hk3)))
        go_ret
        exact ⟨rfl, HK3.out⟩
    · have hltI : ¬ (k : Int) < (F.length : Int) := by omega
      clear HE HV
      go_wp2_with (first
        | (go_at_call 15; (with_reducible refine (HPN.out _ HR.out).mono ?_); rintro e w1 ⟨rfl, hk1⟩; have HK1 := Lib.hid (HR.out.trans0 hk1); clear hk1)
        | (go_at_call 15; (with_reducible refine (HPH.out _ HK1.out).mono ?_); rintro e w2 ⟨rfl, hk2⟩; have HK2 := Lib.hid (HK1.out.trans0 hk2); clear hk2)
        | (go_at_call 15; go_must (refine (HPR.out _ HK2.out).mono ?_; rintro e w3 ⟨rfl, hk3⟩; have HK3 := Lib.hid (HK2.out.trans0 hk3); clear hk3)))
      go_ret
      exact ⟨rfl, HK3.out⟩
end Go.Proofs.YtkceaepbjdfccaaDoor
