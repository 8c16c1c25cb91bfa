/-
The law's written: fields one behind the other.
-/
import Derived.Test.YtkceaepbjdfccaaFld2
import Derived.Test.YtkceaepbjdfccaaFld3
namespace Go.Proofs.Ytkceaepbjdfccaa
open Go.RowKit
/-- a list of fields that came in -/
def Fds (W0 : World) (ao : Option Addr) (Fs : List Fld) : Prop :=
  ∀ (i : Nat) (F : Fld), Fs[i]? = some F → ∃ b off ax cx, ao = some ⟨b, off, none⟩ ∧ W0.cell? ⟨b, off + i * 3, none⟩ = some (.int .i64 F.kind) ∧ W0.cell? ⟨b, off + i * 3 + 1, none⟩ = some (.int .i64 F.n) ∧
    W0.cell? ⟨b, off + i * 3 + 2, none⟩ = some (.slice ax F.b.length cx) ∧ Rd W0 (.slice ax F.b.length cx) (bv F.b) ∧ F.b.length ≤ 140737488351232
theorem Fds.at {W0 w : World} {ao : Option Addr} {Fs : List Fld} (h : Fds W0 ao Fs) (k0 : Kp [] W0 w) {i : Nat} (hi : i < Fs.length) : ∃ b off ax cx, ao = some ⟨b, off, none⟩ ∧ w.cell? ⟨b, off + i * 3, none⟩ = some (.int .i64 Fs[i].kind) ∧ w.cell? ⟨b, off + i * 3 + 1, none⟩ = some (.int .i64 Fs[i].n) ∧
    w.cell? ⟨b, off + i * 3 + 2, none⟩ = some (.slice ax Fs[i].b.length cx) ∧ Fv W0 (.agg #[.int .i64 Fs[i].kind, .int .i64 Fs[i].n, .slice ax Fs[i].b.length cx]) Fs[i] := by
  obtain ⟨b, off, ax, cx, h1, h2, h3, h4, h5, h6⟩ := h i Fs[i] (List.getElem?_eq_getElem hi)
  exact ⟨b, off, ax, cx, h1, k0.cell_some h2 (by simp), k0.cell_some h3 (by simp), k0.cell_some h4 (by simp), ax, cx, rfl, h5, h6⟩
def encs (Fs : List Fld) : List UInt8 := (Fs.map enc).flatten
theorem encs_snoc (Fs : List Fld) (i : Nat) (h : i < Fs.length) : encs (Fs.take (i + 1)) = encs (Fs.take i) ++ enc Fs[i] := by
  unfold encs; rw [List.take_succ_eq_append_getElem h, List.map_append, List.flatten_append]; simp
theorem encs_le (Fs : List Fld) : ∀ (i : Nat), (encs (Fs.take i)).length ≤ 302 * i
  | 0 => by simp [encs]
  | i + 1 => by
    by_cases h : i < Fs.length
    · have := encs_le Fs i
      have := enc_le Fs[i]
      rw [encs_snoc Fs i h, List.length_append]; omega
    · have := encs_le Fs i
      rw [List.take_of_length_le (by omega)] at this ⊢; omega
set_option maxRecDepth 100000 in
set_option maxHeartbeats 1000000 in
theorem written_any (W0 : World) (ao : Option Addr) (cap : Nat) (Fs : List Fld) (w : World) (hf : Fds W0 ao Fs) (k0 : Kp [] W0 w) (hl : Fs.length ≤ 140737488351232) :
    Calls Try.prog 22 #[.slice ao Fs.length cap] w fun e w' => ∃ g, e = .returned (.tuple #[.slice (some ⟨g, 0, none⟩) (encs (Fs.take 20)).length (encs (Fs.take 20)).length, .bool true]) ∧
      Own w' w.heap.size 5 (.slice (some ⟨g, 0, none⟩) (encs (Fs.take 20)).length (encs (Fs.take 20)).length) (bv (encs (Fs.take 20))) ∧ w.heap.size ≤ g ∧ g < w'.heap.size ∧ Kp [] w w' := by
  have HF := Lib.hid hf
  have K0 := Lib.hid k0
  clear hf k0
  go_enter Try.func22, Try.ntmps22
  go_wp2_with fail
  refine (newWriter_yes 6040 w (by omega) (by omega)).mono ?_
  rintro e w1 ⟨rfl, hw, k1⟩
  have HW := Lib.hid hw
  have K1 := Lib.hid k1
  clear hw k1
  go_wp2_with fail
  go_loopw [6, 7] (fun n i wr => ∃ (k : Nat) (ok : Value), k ≤ Fs.length ∧ k ≤ 20 ∧ i = .int .i64 k ∧ n = .int .i64 ((encs (Fs.take k)).length : Nat) ∧ Hid (Wr wr w.heap.size w.heap.size 6040 ok (encs (Fs.take k), 0) ∧ Kp [] w wr)) (fun _ i _ => Fs.length - (intOf i).toNat)
  case atStart => exact ⟨0, .slice none 0 0, Nat.zero_le _, Nat.zero_le _, rfl, rfl, Lib.hid ⟨HW.out, K1.out⟩⟩
  case round =>
    obtain ⟨k, ok, hk, hk20, rfl, rfl, HR⟩ := hrel
    have hle := encs_le Fs k
    by_cases hlt : k < Fs.length
    · by_cases hlt2 : k < 20
      · obtain ⟨b, off, ax, cx, hao, hd0, hd1, hd2, hfv⟩ := HF.out.at (Kp.refl [] W0) hlt
        subst hao
        have HFv := Lib.hid hfv
        have KR := Lib.hid (K0.out.trans0 HR.out.2)
        have hc0 := KR.out.cell_some hd0 (by simp)
        have hc1 := KR.out.cell_some hd1 (by simp)
        have hc2 := KR.out.cell_some hd2 (by simp)
        have D0 := Lib.hid hd0
        have D1 := Lib.hid hd1
        have D2 := Lib.hid hd2
        have hel := enc_le Fs[k]
        have HS := Lib.hid (encs_snoc Fs k hlt)
        have hPut : Hid (putL 6040 (encs (Fs.take k), 0) 0 (enc Fs[k]) = (encs (Fs.take (k + 1)), 0)) := Lib.hid (by rw [putL_ok _ _ _ (by omega), HS.out])
        have hlen : Hid ((encs (Fs.take (k + 1))).length = (encs (Fs.take k)).length + (enc Fs[k]).length) := Lib.hid (by rw [HS.out, List.length_append])
        clear hfv hd0 hd1 hd2
        go_wp2_with fail
        refine (putF_any W0 w.heap.size w.heap.size 6040 ok _ _ Fs[k] wr HFv.out KR.out HR.out.1 K0.out.size HR.out.2.size).mono ?_
        rintro r w2 ⟨ov', rfl, hw2, k2, hob⟩
        have KS := Lib.hid (HR.out.1.stable KR.out K0.out.size w2 k2)
        have KW : Hid (Kp [] w w2) := Lib.hid (HR.out.1.stable HR.out.2 (Nat.le_refl _) w2 k2)
        have HW2 := Lib.hid hw2
        clear hw2 k2 hob hc0 hc1 hc2
        have hc0 := KS.out.cell_some D0.out (by simp)
        have hc1 := KS.out.cell_some D1.out (by simp)
        have hc2 := KS.out.cell_some D2.out (by simp)
        go_wp2_with fail
        refine (size_any W0 _ Fs[k] w2 HFv.out).mono ?_
        rintro e w3 ⟨rfl, k3⟩
        generalize hL : (enc Fs[k]).length = L at *
        generalize hM : (encs (Fs.take k)).length = M at *
        clear hL hM
        go_wp2_with fail
        go_roundw
        case rel => exact ⟨k + 1, ov', by omega, by omega, by go_num, by rw [hlen.out]; go_num, Lib.hid ⟨by have h := HW2.out.kp0 k3; rw [hPut.out] at h; exact h, KW.out.trans0 k3⟩⟩
        case measure => simp [intOf]; omega
      · have hk20' : k = 20 := by omega
        subst hk20'
        go_wp2_with fail
        refine (out_ok w.heap.size w.heap.size 6040 ok _ wr HR.out.1).mono ?_
        rintro e w2 ⟨g, rfl, ho, hg, hg', ko⟩
        have HO := Lib.hid ho
        clear ho
        generalize hM : (encs (Fs.take 20)).length = M at *
        have HM := Lib.hid hM
        clear hM
        go_wp2_with fail
        go_ret2
        obtain rfl := HM.out
        exact ⟨g, rfl, HO.out.base HR.out.2.size, Nat.le_trans HR.out.2.size hg, hg', HR.out.2.trans0 ko⟩
    · have hkl : k = Fs.length := by omega
      have e1 : Fs.take k = Fs.take 20 := by rw [List.take_of_length_le (by omega), List.take_of_length_le (by omega)]
      rw [e1] at HR hle ⊢
      clear e1
      subst hkl
      · go_wp2_with fail
        refine (out_ok w.heap.size w.heap.size 6040 ok _ wr HR.out.1).mono ?_
        rintro e w2 ⟨g, rfl, ho, hg, hg', ko⟩
        have HO := Lib.hid ho
        clear ho
        generalize hM : (encs (Fs.take 20)).length = M at *
        have HM := Lib.hid hM
        clear hM
        go_wp2_with fail
        go_ret2
        obtain rfl := HM.out
        exact ⟨g, rfl, HO.out.base HR.out.2.size, Nat.le_trans HR.out.2.size hg, hg', HR.out.2.trans0 ko⟩
end Go.Proofs.Ytkceaepbjdfccaa
