/-
WireFaults answers true at every input.
-/
import Derived.Test.YtkceaepbjdfccaaLaw0
import Derived.Deep.CutRange
import Derived.Deep.CutBlock
import Derived.Deep.DeepCutAuto
namespace Go.Proofs.Ytkceaepbjdfccaa
open Go.RowKit
set_option maxRecDepth 100000 in
set_option maxHeartbeats 2000000 in
theorem faults_walk (ao : Option Addr) (cap : Nat) (Fs : List Fld) (kind n : Int) (bo : Option Addr) (bcap : Nat) (Gs : List Fld) (w : World) (hf : Fds w ao Fs) (hl : Fs.length ≤ 140737488351232) (hg : Fds w bo Gs) (_ : Gs.length ≤ 140737488351232) :
    Calls Try.prog 7 #[.slice ao Fs.length cap, .int .i64 kind, .int .i64 n, .slice bo Gs.length bcap] w fun e w' => e = .returned (.bool true) ∧ Kp [] w w' := by
  have HF := Lib.hid hf
  have HG := Lib.hid hg
  have hle := encs_le Fs 20
  clear hf hg
  go_enter Try.func7, Try.ntmps7
  go_wp2_with fail
  refine (written_any w ao cap Fs w HF.out (Kp.refl _ _) hl).mono ?_
  rintro e w1 ⟨g, rfl, ho, hg, hg', k1⟩
  generalize hb : encs (Fs.take 20) = b at *
  have HB := Lib.hid hb
  have HO := Lib.hid ho
  have K1 := Lib.hid k1
  clear hb ho k1 hg hg'
  go_wp2_with fail
  refine (newWriter_yes ((b.length : Int) + 3) w1 (by omega) (by omega)).mono ?_
  rintro e w2 ⟨rfl, hw2, k2⟩
  have HW := Lib.hid hw2
  have K2 := Lib.hid k2
  clear hw2 k2
  go_upto_block 0 with fail
  go_cut [13] (fun _ w' => Hid (∃ ov, Wr w' w1.heap.size w1.heap.size ((b.length : Int) + 3) ov (b, 0) ∧ Kp [] w1 w'))
  case first =>
    go_wp2_with fail
    go_loopw [13] (fun i wr => ∃ (j : Nat) (ov : Value), j ≤ Fs.length ∧ j ≤ 20 ∧ i = .int .i64 j ∧ Hid (Wr wr w1.heap.size w1.heap.size ((b.length : Int) + 3) ov (encs (Fs.take j), 0) ∧ Kp [] w1 wr)) (fun i _ => Fs.length - (intOf i).toNat)
    case atStart => exact ⟨0, .slice none 0 0, Nat.zero_le _, Nat.zero_le _, rfl, Lib.hid ⟨HW.out, K2.out⟩⟩
    case round =>
      obtain ⟨j, ov, hj, hj20, rfl, HR⟩ := hrel
      by_cases hlt : j < Fs.length
      · by_cases hlt2 : j < 20
        · obtain ⟨fb, off, ax, cx, hao, hd0, hd1, hd2, hfv⟩ := HF.out.at (Kp.refl [] w) hlt
          subst hao
          have HFv := Lib.hid hfv
          have KR := Lib.hid (K1.out.trans0 HR.out.2)
          have hc0 := KR.out.cell_some hd0 (by simp)
          have hc1 := KR.out.cell_some hd1 (by simp)
          have hc2 := KR.out.cell_some hd2 (by simp)
          obtain ⟨post, hpost⟩ := encs_split Fs j hlt hlt2
          have hPut : Hid (putL ((b.length : Int) + 3) (encs (Fs.take j), 0) 0 (enc Fs[j]) = (encs (Fs.take (j + 1)), 0)) := Lib.hid (by
            have hlen : b.length = (encs (Fs.take j)).length + (enc Fs[j]).length + post.length := by rw [← HB.out, hpost, List.length_append, List.length_append]
            rw [putL_ok _ _ _ (by omega), encs_snoc Fs j hlt])
          clear hfv hd0 hd1 hd2 hpost
          go_wp2_with fail
          refine (putF_any w w1.heap.size w1.heap.size _ ov _ _ Fs[j] wr HFv.out KR.out HR.out.1 K1.out.size HR.out.2.size).mono ?_
          rintro r x2 ⟨ov', rfl, hx2, y2, hob⟩
          have KW : Hid (Kp [] w1 x2) := Lib.hid (HR.out.1.stable HR.out.2 (Nat.le_refl _) x2 y2)
          rw [hPut.out] at hx2
          have HW2 := Lib.hid hx2
          clear hx2 y2 hob hc0 hc1 hc2
          go_wp2_with fail
          go_roundw
          case rel => exact ⟨j + 1, ov', by omega, by omega, by go_num, Lib.hid ⟨HW2.out, KW.out⟩⟩
          case measure => simp [intOf]; omega
        · have hj' : j = 20 := by omega
          subst hj'
          go_wp2_with fail
          go_meet
          exact Lib.hid ⟨ov, by have h := HR.out.1; rwa [HB.out] at h, HR.out.2⟩
      · have hjl : j = Fs.length := by omega
        subst hjl
        have hEb : encs (Fs.take Fs.length) = b := by rw [List.take_length, ← HB.out, List.take_of_length_le (by omega)]
        have HE := Lib.hid hEb
        clear hEb
        go_wp2_with fail
        go_meet
        exact Lib.hid ⟨ov, by have h := HR.out.1; rwa [HE.out] at h, HR.out.2⟩
  case rest =>
    obtain ⟨ov, hw, kw⟩ := hcut.out
    have HW2 := Lib.hid hw
    have KW2 := Lib.hid kw
    clear hw kw hcut HW K2
    go_wp2_with fail
    refine (rest_nat n 1000 (by omega) (by omega) wc).mono ?_
    rintro e w' ⟨m, rfl, hm, rfl⟩
    go_wp2_with fail
    refine (rest_nat kind 5 (by omega) (by omega) wc).mono ?_
    rintro e w' ⟨r, rfl, hr, rfl⟩
    go_upto_block 2 with fail
    have hws : w.heap.size ≤ w1.heap.size := K1.out.size
    go_cut [15] (fun c w' => ∃ f : Int, f ≠ 0 ∧ c = .int .i64 f ∧ Hid (∃ ov, Wr w' w1.heap.size w1.heap.size ((b.length : Int) + 3) ov (b, f) ∧ Kp [] w1 w'))
    case first =>
      have hr5 : r = 0 ∨ r = 1 ∨ r = 2 ∨ r = 3 ∨ r = 4 := by omega
      rcases hr5 with rfl | rfl | rfl | rfl | rfl
      · go_wp2_with fail
        refine (wU8_any _ _ _ ov _ _ wc HW2.out KW2.out.size).mono ?_
        rintro e x2 ⟨ov', rfl, hx2, y2, hob⟩
        rw [show withinE (-1 - (m : Int)) 256 = 4 from by unfold withinE; rw [if_pos (by omega)], putL_err _ _ _ _ (by decide)] at hx2
        have X2 := Lib.hid hx2
        have Y2 := Lib.hid (HW2.out.stable KW2.out (Nat.le_refl _) x2 y2)
        clear hx2 y2 hob
        go_wp2_with fail
        go_meet
        exact ⟨4, by decide, rfl, Lib.hid ⟨ov', X2.out, Y2.out⟩⟩
      · go_wp2_with fail
        refine (rest_nat n 1000 (by omega) (by omega) wc).mono ?_
        rintro e w' ⟨m2, rfl, hm2, rfl⟩
        go_wp2_with fail
        refine (wU8_any _ _ _ ov _ _ wc HW2.out KW2.out.size).mono ?_
        rintro e x2 ⟨ov', rfl, hx2, y2, hob⟩
        rw [show withinE (256 + (m2 : Int)) 256 = 4 from by unfold withinE; rw [if_pos (by omega)], putL_err _ _ _ _ (by decide)] at hx2
        have X2 := Lib.hid hx2
        have Y2 := Lib.hid (HW2.out.stable KW2.out (Nat.le_refl _) x2 y2)
        clear hx2 y2 hob
        go_wp2_with fail
        go_meet
        exact ⟨4, by decide, rfl, Lib.hid ⟨ov', X2.out, Y2.out⟩⟩
      · go_wp2_with fail
        refine (rest_nat n 1000 (by omega) (by omega) wc).mono ?_
        rintro e w' ⟨m2, rfl, hm2, rfl⟩
        go_wp2_with fail
        refine (wU16_any _ _ _ ov _ _ wc HW2.out KW2.out.size).mono ?_
        rintro e x2 ⟨ov', rfl, hx2, y2, hob⟩
        rw [show withinE (65536 + (m2 : Int)) 65536 = 4 from by unfold withinE; rw [if_pos (by omega)], putL_err _ _ _ _ (by decide)] at hx2
        have X2 := Lib.hid hx2
        have Y2 := Lib.hid (HW2.out.stable KW2.out (Nat.le_refl _) x2 y2)
        clear hx2 y2 hob
        go_wp2_with fail
        go_meet
        exact ⟨4, by decide, rfl, Lib.hid ⟨ov', X2.out, Y2.out⟩⟩
      · obtain ⟨N, hN⟩ : ∃ N : Nat, N = 65536 := ⟨_, rfl⟩
        have HN := Lib.hid hN
        clear hN
        go_wp2_with (first | (at_make; refine wpl_make el_u8 rfl rfl _ _ rfl _ _ _ _ N rfl rfl (by rw [HN.out]; rfl) (by rw [HN.out]; rfl) (by rw [HN.out]; decide) (by rw [HN.out]; decide) ?_; intro wm hom hgm _; have OM := Lib.hid hom; have KM := Lib.hid (Kp.of_grown (L := []) hgm (fun k hk => by cases hk)); clear hom hgm) | fail)
        have hrep : ∀ n : Nat, List.replicate n (Value.int .u8 0) = bv (List.replicate n 0) := fun n => by unfold bv; rw [List.map_replicate]; rfl
        rw [hrep] at OM
        have hl1 : (List.replicate N (0 : UInt8)).length ≤ 140737488351232 := by rw [List.length_replicate, HN.out]; decide
        have hl2 : 65535 < (List.replicate N (0 : UInt8)).length := by rw [List.length_replicate, HN.out]; decide
        have hrd : ∀ w', Kp (w1.heap.size :: ob ov) wm w' → Rd w' (.slice (some ⟨wc.heap.size, 0, none⟩) N N) (bv (List.replicate N 0)) := fun w' k => (OM.out.kp k (fun g hg => HW2.out.lt (OM.out.lt hg).1)).rd
        generalize List.replicate N (0 : UInt8) = LN at *
        refine (wRun_any _ _ _ ov _ _ LN wm (HW2.out.kp0 KM.out) (Nat.le_trans KW2.out.size KM.out.size) hrd hl1).mono ?_
        rintro e x2 ⟨ov', rfl, hx2, y2, hob⟩
        rw [if_pos hl2, putL_err _ _ _ _ (by decide)] at hx2
        have X2 := Lib.hid hx2
        have Y2 := Lib.hid ((HW2.out.kp0 KM.out).stable (KW2.out.trans0 KM.out) (Nat.le_refl _) x2 y2)
        clear hx2 y2 hob hrep
        go_wp2_with fail
        go_meet
        exact ⟨12, by decide, rfl, Lib.hid ⟨ov', X2.out, Y2.out⟩⟩
      · go_wp2_with fail
        refine (wU32_any _ _ _ ov _ 7 (by decide) (by decide) wc HW2.out KW2.out.size).mono ?_
        rintro e x2 ⟨ov', rfl, hx2, y2, hob⟩
        rw [putL_long _ _ _ (by simp [be32]; omega)] at hx2
        have X2 := Lib.hid hx2
        have Y2 := Lib.hid (HW2.out.stable KW2.out (Nat.le_refl _) x2 y2)
        clear hx2 y2 hob
        go_wp2_with fail
        go_meet
        exact ⟨5, by decide, rfl, Lib.hid ⟨ov', X2.out, Y2.out⟩⟩
    case rest =>
      obtain ⟨f, hf, rfl, HC⟩ := hcut
      clear HW2 KW2
      go_upto_block 3 with fail
      go_cut [16] (fun _ w' => Hid (∃ ov, Wr w' w1.heap.size w1.heap.size ((b.length : Int) + 3) ov (b, f) ∧ Kp [] w1 w'))
      case first =>
        obtain ⟨ov1, hw, kw⟩ := HC.out
        have HW3 := Lib.hid (And.intro hw kw)
        clear hw kw HC
        go_wp2_with fail
        go_loopw [16] (fun i wr => ∃ (j : Nat) (ov : Value), j ≤ Gs.length ∧ i = .int .i64 j ∧ Hid (Wr wr w1.heap.size w1.heap.size ((b.length : Int) + 3) ov (b, f) ∧ Kp [] w1 wr)) (fun i _ => Gs.length - (intOf i).toNat)
        case atStart => exact ⟨0, ov1, Nat.zero_le _, rfl, Lib.hid HW3.out⟩
        case round =>
          obtain ⟨j, ov, hj, rfl, HR⟩ := hrel
          by_cases hlt : j < Gs.length
          · by_cases hlt2 : j < 20
            · obtain ⟨fb, off, ax, cx, hao, hd0, hd1, hd2, hfv⟩ := HG.out.at (Kp.refl [] w) hlt
              subst hao
              have HFv := Lib.hid hfv
              have KR := Lib.hid (K1.out.trans0 HR.out.2)
              have hc0 := KR.out.cell_some hd0 (by simp)
              have hc1 := KR.out.cell_some hd1 (by simp)
              have hc2 := KR.out.cell_some hd2 (by simp)
              clear hfv hd0 hd1 hd2
              go_wp2_with fail
              refine (putF_any w w1.heap.size w1.heap.size _ ov _ _ Gs[j] wr HFv.out KR.out HR.out.1 hws HR.out.2.size).mono ?_
              rintro r x2 ⟨ov', rfl, hx2, y2, hob⟩
              have KW : Hid (Kp [] w1 x2) := Lib.hid (HR.out.1.stable HR.out.2 (Nat.le_refl _) x2 y2)
              rw [putL_fault _ _ _ _ _ hf] at hx2
              have HW2 := Lib.hid hx2
              clear hx2 y2 hob hc0 hc1 hc2
              go_wp2_with fail
              go_roundw
              case rel => exact ⟨j + 1, ov', by omega, by go_num, Lib.hid ⟨HW2.out, KW.out⟩⟩
              case measure => simp [intOf]; omega
            · go_wp2_with fail
              go_meet
              exact Lib.hid ⟨ov, HR.out⟩
          · go_wp2_with fail
            go_meet
            exact Lib.hid ⟨ov, HR.out⟩
      case rest =>
        obtain ⟨ov1, hw, kw⟩ := hcut.out
        have HW3 := Lib.hid hw
        have KW3 := Lib.hid kw
        clear hw kw hcut HC
        go_wp2_with fail
        refine (wU8_any _ _ _ ov1 _ (-1) wc HW3.out KW3.out.size).mono ?_
        rintro e x1 ⟨ov2, rfl, hx1, y1, hob⟩
        rw [putL_fault _ _ _ _ _ hf] at hx1
        have X1 := Lib.hid hx1
        have Y1 := Lib.hid (HW3.out.stable KW3.out (Nat.le_refl _) x1 y1)
        clear hx1 y1 hob HW3 KW3
        go_wp2_with fail
        refine (out_bad _ _ _ ov2 b f hf x1 X1.out).mono ?_
        rintro e x2 ⟨rfl, y2⟩
        have Y2 := Lib.hid (Y1.out.trans0 y2)
        clear y2 X1 Y1
        have HO2 := Lib.hid (HO.out.kp0 Y2.out)
        have KX := Lib.hid (K1.out.trans0 Y2.out)
        have hff : (f != f) = false := by simp
        clear HO Y2 HF HG
        have rdf : ∀ (x : World) (e : TypeId), Rd (x.alloc (.cells #[Value.int .u8 0, .int .u8 2, .int .u8 9, .int .u8 9] e)) (.slice (some ⟨x.heap.size, 0, none⟩) 4 4) [Value.int .u8 0, .int .u8 2, .int .u8 9, .int .u8 9] := fun x e => (Own.lit x e #[Value.int .u8 0, .int .u8 2, .int .u8 9, .int .u8 9] (Nat.le_refl _) (by simp)).rd
        have tok1 : True := trivial
        go_wp2_with (first
          | (at_builtin; have _t := tok1; clear _t tok1; refine wpl_append3 el_u8 rfl _ _ rfl rfl rfl (Own.nil _ x2.heap.size _) HO2.out.rd (bv_oneCell _) (by simp [bv]; omega) (Nat.le_refl _) ?_; intro v1 x3 ho3 hg3 hw3; have O3 := Lib.hid ho3; have K3 := Lib.hid (Kp.grown (Kp.refl [] x2) hg3 (fun k hk => by cases hk)); have HS3 := Lib.hid hg3.size; clear ho3 hg3 hw3)
          | (at_builtin; refine wpl_append3 el_u8 rfl _ _ rfl rfl rfl (O3.out.kp0 ((Kp.refl [] x3).alloc _)) (rdf x3 _) (by simp [Value.oneCell']) (by simp [bv]; omega) (by have := HS3.out; simp; omega) ?_; intro v2 x4 ho4 hg4 hw4; have O4 := Lib.hid ho4; have KK4 := Lib.hid hg4; clear ho4 hg4 hw4)
          | fail)
        have ht' : [] ++ bv b ++ [Value.int .u8 0, .int .u8 2, .int .u8 9, .int .u8 9] = bv (b ++ [0, 2, 9, 9]) := by simp [bv, bval]
        have O5 : Hid (Own x4 x2.heap.size 5 v2 (bv (b ++ [0, 2, 9, 9]))) := Lib.hid (by have h := O4.out; rwa [ht'] at h)
        have J4 := Lib.hid ((K3.out.alloc _).grown KK4.out (fun k hk => .inr (O3.out.lt hk).1))
        clear O4 KK4 O3 K3 HS3 ht' rdf
        refine (newReader_any v2 (b ++ [0, 2, 9, 9]) x4 O5.out.rd (by simp; omega)).mono ?_
        rintro e x5 ⟨p, rv, rfl, hr5, k5⟩
        have R5 := Lib.hid hr5
        have J5 := Lib.hid (J4.out.trans0 k5)
        have PB : Hid (x2.heap.size ≤ p) := Lib.hid (Nat.le_trans J4.out.size hr5.le)
        have PO : Hid (∀ g ∈ ob rv, x2.heap.size ≤ g) := Lib.hid (fun g hg => Nat.le_trans J4.out.size (hr5.own.lt (mem_ob.1 hg)).1)
        clear hr5 k5 J4 O5
        have hfx : fieldL (b ++ [0, 2, 9, 9]) ⟨0, 0, 0⟩ 0 (b.length : Int) = (b, ⟨b.length, 0, 0⟩) := by
          have h := field_ok [] b [0, 2, 9, 9] 0
          simpa using h
        have HX := Lib.hid hfx
        clear hfx
        go_wp2_with fail
        refine (rFixed_any x4.heap.size p rv (b ++ [0, 2, 9, 9]) _ (b.length : Int) x5 R5.out (by omega)).mono ?_
        rintro e x6 ⟨v6, rfl, o6, r6, k6⟩
        rw [HX.out] at o6 r6
        have O6 := Lib.hid o6
        have R6 := Lib.hid r6
        have J6 : Hid (Kp [] x2 x6) := Lib.hid (J5.out.trans k6 (fun m hm => by rw [List.mem_singleton] at hm; subst hm; exact .inr PB.out))
        clear o6 r6 k6 R5 J5
        have hdb : decide (b = b) = true := by simp
        go_wp2_with fail
        refine (eq_any _ _ b b x6 O6.out.rd (HO2.out.kp0 J6.out).rd).mono ?_
        rintro e w' ⟨rfl, rfl⟩
        clear O6
        have hk2 : kind % 2 = 0 ∨ kind % 2 = 1 := by omega
        rcases hk2 with hk2 | hk2
        · have HK := Lib.hid hk2
          clear hk2
          go_wp2_with fail
          refine (rest_eq kind 2 0 (by omega) (by omega) HK.out _).mono ?_
          rintro e w' ⟨rfl, rfl⟩
          go_wp2_with fail
          refine (rFixed_any x4.heap.size p rv (b ++ [0, 2, 9, 9]) _ (-1 - (m : Int)) _ R6.out (by omega)).mono ?_
          rintro e z0 ⟨v7, rfl, o7, r7, y7⟩
          rw [show fieldL (b ++ [0, 2, 9, 9]) ⟨b.length, 0, 0⟩ 0 (-1 - (m : Int)) = ([], ⟨b.length, b.length, 4⟩) from by unfold fieldL; rw [if_neg (by simp), if_pos (by omega)]] at r7
          have RZ := Lib.hid r7
          have JZ : Hid (Kp [] x2 z0) := Lib.hid (J6.out.trans y7 (fun m hm => by rw [List.mem_singleton] at hm; subst hm; exact .inr PB.out))
          clear o7 r7 y7 R6 J6
          have hF : ∀ (a : Nat) (n : Int), fieldL (b ++ [0, 2, 9, 9]) ⟨b.length, b.length, 4⟩ a n = ([], ⟨b.length, b.length, 4⟩) := fun a n => field_fault _ _ _ _ (by simp only; decide)
          have hRn : ∀ m : Int, runL (b ++ [0, 2, 9, 9]) ⟨b.length, b.length, 4⟩ m = ([], ⟨b.length, b.length, 4⟩) := fun m => run_fault _ _ _ (by simp only; decide)
          have hEn : endL (b ++ [0, 2, 9, 9]) ⟨b.length, b.length, 4⟩ = ⟨b.length, b.length, 4⟩ := by unfold endL; rw [if_neg (by simp)]
          have HFL := Lib.hid hF
          have HRL := Lib.hid hRn
          clear hF hRn
          go_wp2_with fail
          refine (rEnd_any x4.heap.size p rv (b ++ [0, 2, 9, 9]) _ z0 RZ.out).mono ?_
          rintro e z1 ⟨rfl, r1, y1⟩
          rw [hEn] at r1
          have R1 := Lib.hid r1
          have M1 := Lib.hid (JZ.out.trans y1 (fun m hm => by rw [List.mem_singleton] at hm; subst hm; exact .inr PB.out))
          clear r1 y1 RZ JZ hEn
          go_wp2_with fail
          refine (rU8_any x4.heap.size p rv (b ++ [0, 2, 9, 9]) _ z1 R1.out).mono ?_
          rintro e z2 ⟨rfl, r2, y2⟩
          rw [HFL.out] at r2 ⊢
          have R2 := Lib.hid r2
          have M2 := Lib.hid (M1.out.trans y2 (fun m hm => by rw [List.mem_singleton] at hm; subst hm; exact .inr PB.out))
          have hn0 : numL [] = 0 := rfl
          rw [hn0]
          clear r2 y2 R1 M1
          go_wp2_with fail
          refine (rU16_any x4.heap.size p rv (b ++ [0, 2, 9, 9]) _ z2 R2.out).mono ?_
          rintro e z3 ⟨rfl, r3, y3⟩
          rw [HFL.out] at r3 ⊢
          have R3 := Lib.hid r3
          have M3 := Lib.hid (M2.out.trans y3 (fun m hm => by rw [List.mem_singleton] at hm; subst hm; exact .inr PB.out))
          rw [hn0]
          clear r3 y3 R2 M2
          go_wp2_with fail
          refine (rU32_any x4.heap.size p rv (b ++ [0, 2, 9, 9]) _ z3 R3.out).mono ?_
          rintro e z4 ⟨rfl, r4, y4⟩
          rw [HFL.out] at r4 ⊢
          have R4 := Lib.hid r4
          have M4 := Lib.hid (M3.out.trans y4 (fun m hm => by rw [List.mem_singleton] at hm; subst hm; exact .inr PB.out))
          rw [hn0]
          clear r4 y4 R3 M3 hn0
          go_wp2_with fail
          refine (rFixed_any x4.heap.size p rv (b ++ [0, 2, 9, 9]) _ 1 z4 R4.out (by decide)).mono ?_
          rintro e z5 ⟨v5, rfl, o5, r5, y5⟩
          rw [HFL.out] at o5 r5
          obtain ⟨a5, c5, rfl⟩ := o5.rd.form
          have R5 := Lib.hid r5
          have M5 := Lib.hid (M4.out.trans y5 (fun m hm => by rw [List.mem_singleton] at hm; subst hm; exact .inr PB.out))
          have hb0 : (bv []).length = 0 := rfl
          rw [hb0]
          clear r5 y5 o5 R4 M4
          go_wp2_with fail
          refine (rRun_any x4.heap.size p rv (b ++ [0, 2, 9, 9]) _ 9 z5 R5.out).mono ?_
          rintro e z6 ⟨v6, rfl, o6, r6, y6⟩
          rw [HRL.out] at o6 r6
          obtain ⟨a6, c6, rfl⟩ := o6.rd.form
          have R6 := Lib.hid r6
          have M6 := Lib.hid (M5.out.trans y6 (fun m hm => by rw [List.mem_singleton] at hm; subst hm; exact .inr PB.out))
          rw [hb0]
          clear r6 y6 o6 R5 M5 hb0
          go_wp2_with fail
          refine (fault_at x4.heap.size p rv (b ++ [0, 2, 9, 9]) _ z6 R6.out (by simp)).mono ?_
          rintro e w' ⟨rfl, n7, rfl⟩
          go_wp2_with fail
          refine (left_eq x4.heap.size p rv (b ++ [0, 2, 9, 9]) _ _ 4 (R6.out.kp0 ((Kp.refl [] z6).drewN n7)) (by simp; omega)).mono ?_
          rintro e w' ⟨rfl, n8, rfl⟩
          go_wp2_with fail
          go_ret
          exact ⟨by simp, KX.out.trans0 (by (repeat (first | exact Kp.refl _ _ | assumption | refine Kp.drewN ?_ _ | refine Kp.drew ?_ | refine Kp.alloc ?_ _ | refine Kp.trans0 ?_ (by assumption))))⟩
        · have HK := Lib.hid hk2
          clear hk2
          go_wp2_with fail
          refine (rest_eq kind 2 1 (by omega) (by omega) HK.out _).mono ?_
          rintro e w' ⟨rfl, rfl⟩
          go_wp2_with fail
          refine (rRun_any x4.heap.size p rv (b ++ [0, 2, 9, 9]) _ 1 _ R6.out).mono ?_
          rintro e z0 ⟨v7, rfl, o7, r7, y7⟩
          rw [show runL (b ++ [0, 2, 9, 9]) ⟨b.length, 0, 0⟩ 1 = ([], ⟨b.length, b.length, 12⟩) from by unfold runL; rw [if_neg (by simp), if_neg (by simp; omega), if_pos (by simp [numL])]] at r7
          have RZ := Lib.hid r7
          have JZ : Hid (Kp [] x2 z0) := Lib.hid (J6.out.trans y7 (fun m hm => by rw [List.mem_singleton] at hm; subst hm; exact .inr PB.out))
          clear o7 r7 y7 R6 J6
          have hF : ∀ (a : Nat) (n : Int), fieldL (b ++ [0, 2, 9, 9]) ⟨b.length, b.length, 12⟩ a n = ([], ⟨b.length, b.length, 12⟩) := fun a n => field_fault _ _ _ _ (by simp only; decide)
          have hRn : ∀ m : Int, runL (b ++ [0, 2, 9, 9]) ⟨b.length, b.length, 12⟩ m = ([], ⟨b.length, b.length, 12⟩) := fun m => run_fault _ _ _ (by simp only; decide)
          have hEn : endL (b ++ [0, 2, 9, 9]) ⟨b.length, b.length, 12⟩ = ⟨b.length, b.length, 12⟩ := by unfold endL; rw [if_neg (by simp)]
          have HFL := Lib.hid hF
          have HRL := Lib.hid hRn
          clear hF hRn
          go_wp2_with fail
          refine (rEnd_any x4.heap.size p rv (b ++ [0, 2, 9, 9]) _ z0 RZ.out).mono ?_
          rintro e z1 ⟨rfl, r1, y1⟩
          rw [hEn] at r1
          have R1 := Lib.hid r1
          have M1 := Lib.hid (JZ.out.trans y1 (fun m hm => by rw [List.mem_singleton] at hm; subst hm; exact .inr PB.out))
          clear r1 y1 RZ JZ hEn
          go_wp2_with fail
          refine (rU8_any x4.heap.size p rv (b ++ [0, 2, 9, 9]) _ z1 R1.out).mono ?_
          rintro e z2 ⟨rfl, r2, y2⟩
          rw [HFL.out] at r2 ⊢
          have R2 := Lib.hid r2
          have M2 := Lib.hid (M1.out.trans y2 (fun m hm => by rw [List.mem_singleton] at hm; subst hm; exact .inr PB.out))
          have hn0 : numL [] = 0 := rfl
          rw [hn0]
          clear r2 y2 R1 M1
          go_wp2_with fail
          refine (rU16_any x4.heap.size p rv (b ++ [0, 2, 9, 9]) _ z2 R2.out).mono ?_
          rintro e z3 ⟨rfl, r3, y3⟩
          rw [HFL.out] at r3 ⊢
          have R3 := Lib.hid r3
          have M3 := Lib.hid (M2.out.trans y3 (fun m hm => by rw [List.mem_singleton] at hm; subst hm; exact .inr PB.out))
          rw [hn0]
          clear r3 y3 R2 M2
          go_wp2_with fail
          refine (rU32_any x4.heap.size p rv (b ++ [0, 2, 9, 9]) _ z3 R3.out).mono ?_
          rintro e z4 ⟨rfl, r4, y4⟩
          rw [HFL.out] at r4 ⊢
          have R4 := Lib.hid r4
          have M4 := Lib.hid (M3.out.trans y4 (fun m hm => by rw [List.mem_singleton] at hm; subst hm; exact .inr PB.out))
          rw [hn0]
          clear r4 y4 R3 M3 hn0
          go_wp2_with fail
          refine (rFixed_any x4.heap.size p rv (b ++ [0, 2, 9, 9]) _ 1 z4 R4.out (by decide)).mono ?_
          rintro e z5 ⟨v5, rfl, o5, r5, y5⟩
          rw [HFL.out] at o5 r5
          obtain ⟨a5, c5, rfl⟩ := o5.rd.form
          have R5 := Lib.hid r5
          have M5 := Lib.hid (M4.out.trans y5 (fun m hm => by rw [List.mem_singleton] at hm; subst hm; exact .inr PB.out))
          have hb0 : (bv []).length = 0 := rfl
          rw [hb0]
          clear r5 y5 o5 R4 M4
          go_wp2_with fail
          refine (rRun_any x4.heap.size p rv (b ++ [0, 2, 9, 9]) _ 9 z5 R5.out).mono ?_
          rintro e z6 ⟨v6, rfl, o6, r6, y6⟩
          rw [HRL.out] at o6 r6
          obtain ⟨a6, c6, rfl⟩ := o6.rd.form
          have R6 := Lib.hid r6
          have M6 := Lib.hid (M5.out.trans y6 (fun m hm => by rw [List.mem_singleton] at hm; subst hm; exact .inr PB.out))
          rw [hb0]
          clear r6 y6 o6 R5 M5 hb0
          go_wp2_with fail
          refine (fault_at x4.heap.size p rv (b ++ [0, 2, 9, 9]) _ z6 R6.out (by simp)).mono ?_
          rintro e w' ⟨rfl, n7, rfl⟩
          go_wp2_with fail
          refine (left_eq x4.heap.size p rv (b ++ [0, 2, 9, 9]) _ _ 4 (R6.out.kp0 ((Kp.refl [] z6).drewN n7)) (by simp; omega)).mono ?_
          rintro e w' ⟨rfl, n8, rfl⟩
          go_wp2_with fail
          go_ret
          exact ⟨by simp, KX.out.trans0 (by (repeat (first | exact Kp.refl _ _ | assumption | refine Kp.drewN ?_ _ | refine Kp.drew ?_ | refine Kp.alloc ?_ _ | refine Kp.trans0 ?_ (by assumption))))⟩
end Go.Proofs.Ytkceaepbjdfccaa
