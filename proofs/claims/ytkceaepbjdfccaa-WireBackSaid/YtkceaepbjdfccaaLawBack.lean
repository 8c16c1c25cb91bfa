/-
WireBack answers true at every input.
-/
import Derived.Test.YtkceaepbjdfccaaLaw0
namespace Go.Proofs.Ytkceaepbjdfccaa
open Go.RowKit
/-- where the three readers stand behind so many fields -/
structure Stand (Fs : List Fld) (b tl : List UInt8) (k : Nat) (w wr : World) (p1 p2 p3 : Nat) (rv1 rv2 rv3 : Value) (B1 B2 B3 : Nat) (j : Nat) (t : Int) : Prop where
  r1 : Rr wr B1 p1 rv1 b ⟨(encs (Fs.take j)).length, 0, 0⟩
  r2 : Rr wr B2 p2 rv2 (b ++ tl) ⟨(encs (Fs.take j)).length, 0, 0⟩
  kw : Kp [] w wr
  r3 : (t = -1 ∧ Rr wr B3 p3 rv3 (b.take k) ⟨(encs (Fs.take j)).length, 0, 0⟩ ∧ (encs (Fs.take j)).length ≤ k) ∨ (∃ n : Nat, t = n ∧ Rr wr B3 p3 rv3 (b.take k) ⟨n, n, 10⟩ ∧ n ≤ k ∧ k < (encs (Fs.take j)).length)
set_option maxRecDepth 100000 in
set_option maxHeartbeats 2000000 in
theorem back_walk (ao : Option Addr) (cap : Nat) (Fs : List Fld) (cut : Int) (tv : Value) (tl : List UInt8) (w : World) (hf : Fds w ao Fs) (hl : Fs.length ≤ 140737488351232) (ht : Rd w tv (bv tl)) (htl : tl.length ≤ 140737488351232) :
    Calls Try.prog 6 #[.slice ao Fs.length cap, .int .i64 cut, tv] w fun e w' => e = .returned (.bool true) ∧ Kp [] w w' := by
  obtain ⟨ta, tc, rfl⟩ := ht.form
  rw [bv_length] at ht ⊢
  have HF := Lib.hid hf
  have HT := Lib.hid ht
  have hle := encs_le Fs 20
  clear hf ht
  go_enter Try.func6, Try.ntmps6
  go_wp2_with fail
  refine (written_any w ao cap Fs w HF.out (Kp.refl _ _) hl).mono ?_
  rintro e w1 ⟨g, rfl, ho, hg, hg', k1⟩
  generalize hb : encs (Fs.take 20) = b at *
  have HB := Lib.hid hb
  have HO := Lib.hid ho
  have K1 := Lib.hid k1
  have HG := Lib.hid (And.intro hg hg')
  clear hb ho k1 hg hg'
  go_wp2_with fail
  refine (newReader_any _ b w1 HO.out.rd (by omega)).mono ?_
  rintro e w2 ⟨p1, rv1, rfl, hr1, k2⟩
  have R1 := Lib.hid hr1
  have K2 := Lib.hid (K1.out.trans0 k2)
  have HO2 := Lib.hid (HO.out.kp0 k2)
  clear hr1 k2
  have tok1 : True := trivial
  go_wp2_with (first
    | (at_builtin; have _t := tok1; clear _t tok1; refine wpl_append3 el_u8 rfl _ _ rfl rfl rfl (Own.nil _ w2.heap.size _) HO2.out.rd (bv_oneCell _) (by simp [bv]; omega) (Nat.le_refl _) ?_; intro v1 w3 ho3 hg3 hw3; have O3 := Lib.hid ho3; have K3 := Lib.hid (Kp.grown (Kp.refl [] w2) hg3 (fun k hk => by cases hk)); have HS3 := Lib.hid hg3.size; clear ho3 hg3 hw3)
    | (at_builtin; refine wpl_append3 el_u8 rfl _ _ rfl rfl rfl O3.out (HT.out.kp0 (K2.out.trans0 K3.out)) (bv_oneCell _) (by simp [bv]; omega) HS3.out ?_; intro v2 w4 ho4 hg4 hw4; have O4 := Lib.hid ho4; have KK4 := Lib.hid hg4; clear ho4 hg4 hw4)
    | fail)
  have ht' : [] ++ bv b ++ bv tl = bv (b ++ tl) := by simp [bv]
  have O5 : Hid (Own w4 w2.heap.size 5 v2 (bv (b ++ tl))) := Lib.hid (by have h := O4.out; rwa [ht'] at h)
  have J4 := Lib.hid (K3.out.grown KK4.out (fun k hk => .inr (O3.out.lt hk).1))
  clear O4 KK4 O3 K3 HS3 ht'
  refine (newReader_any v2 (b ++ tl) w4 O5.out.rd (by simp; omega)).mono ?_
  rintro e w5 ⟨p2, rv2, rfl, hr2, k5⟩
  have R2 := Lib.hid hr2
  have J5 := Lib.hid (J4.out.trans0 k5)
  have S5 := Lib.hid (J4.out.size)
  clear hr2 k5 J4 O5
  go_wp2_with fail
  refine (rest_nat cut _ (by omega) (by omega) w5).mono ?_
  rintro e w' ⟨k, rfl, hk, rfl⟩
  have hkb : k ≤ b.length := by omega
  obtain ⟨a6, n6, c6, s6, r6⟩ := run_subb_hm el_u8 (HO2.out.kp0 J5.out).rd k hkb
  have R6 := Lib.hid r6
  clear r6
  go_wp2_with fail
  refine (newReader_any _ (b.take k) w5 R6.out (by simp; omega)).mono ?_
  rintro e w6 ⟨p3, rv3, rfl, hr3, k6⟩
  have R3 := Lib.hid hr3
  have J6 := Lib.hid (J5.out.trans0 k6)
  have Q1 := Lib.hid (R1.out.kp0 J6.out)
  have Q2 := Lib.hid (R2.out.kp0 k6)
  have K6 := Lib.hid (K2.out.trans0 J6.out)
  have D12 : Hid (p1 ≠ p2 ∧ p1 ≠ p3 ∧ p2 ≠ p3 ∧ p1 ∉ ob rv2 ∧ p1 ∉ ob rv3 ∧ p2 ∉ ob rv1 ∧ p2 ∉ ob rv3 ∧ p3 ∉ ob rv1 ∧ p3 ∉ ob rv2) := Lib.hid (by
    have a1 := R1.out.lt
    have a2 := R2.out.le
    have a3 := R2.out.lt
    have a4 := R3.out.le
    have z1 := S5.out
    have z2 := J5.out.size
    have b1 : ∀ g, g ∈ ob rv1 → g < w2.heap.size := fun g hg => (R1.out.own.lt (mem_ob.1 hg)).2
    have b2 : ∀ g, g ∈ ob rv2 → w4.heap.size ≤ g ∧ g < w5.heap.size := fun g hg => R2.out.own.lt (mem_ob.1 hg)
    have b3 : ∀ g, g ∈ ob rv3 → w5.heap.size ≤ g := fun g hg => (R3.out.own.lt (mem_ob.1 hg)).1
    refine ⟨by omega, by omega, by omega, fun h => ?_, fun h => ?_, fun h => ?_, fun h => ?_, fun h => ?_, fun h => ?_⟩
    · have := b2 _ h; omega
    · have := b3 _ h; omega
    · have := b1 _ h; omega
    · have := b3 _ h; omega
    · have := b1 _ h; omega
    · have := b2 _ h; omega)
  have P1 : Hid (w.heap.size ≤ p1 ∧ w.heap.size ≤ p2 ∧ w.heap.size ≤ p3 ∧ w.heap.size ≤ w1.heap.size ∧ w.heap.size ≤ w4.heap.size ∧ w.heap.size ≤ w5.heap.size) := Lib.hid (by
    have z0 := K1.out.size
    have z1 := S5.out
    have z2 := J5.out.size
    have z3 := K2.out.size
    have a0 := R1.out.le
    have a2 := R2.out.le
    have a4 := R3.out.le
    omega)
  clear hr3 k6 R1 R2 R6 s6 J5 J6 S5 HO HO2 K1 K2
  go_wp2_with fail
  go_loopw [13, 14, 15] (fun A T I wr => ∃ (j : Nat) (t : Int), j ≤ Fs.length ∧ j ≤ 20 ∧ I = .int .i64 j ∧ A = .int .i64 ((encs (Fs.take j)).length : Nat) ∧ T = .int .i64 t ∧ Hid (Stand Fs b tl k w wr p1 p2 p3 rv1 rv2 rv3 w1.heap.size w4.heap.size w5.heap.size j t)) (fun _ _ I _ => Fs.length - (intOf I).toNat)
  case atStart => exact ⟨0, -1, Nat.zero_le _, Nat.zero_le _, rfl, rfl, rfl, Lib.hid ⟨Q1.out, Q2.out, K6.out, .inl ⟨rfl, R3.out, Nat.zero_le _⟩⟩⟩
  case round =>
    obtain ⟨j, t, hj, hj20, rfl, rfl, rfl, HS⟩ := hrel
    have hle2 := encs_le Fs j
    by_cases hlt : j < Fs.length
    · by_cases hlt2 : j < 20
      · obtain ⟨post, hpost⟩ := encs_split Fs j hlt hlt2
        rw [HB.out] at hpost
        have HP := Lib.hid hpost
        clear hpost
        obtain ⟨fb, off, ax, cx, hao, hd0, hd1, hd2, hfv⟩ := HF.out.at (Kp.refl [] w) hlt
        subst hao
        have HFv := Lib.hid hfv
        have D := Lib.hid (And.intro hd0 (And.intro hd1 hd2))
        clear hfv hd0 hd1 hd2
        have hc0 := HS.out.kw.cell_some D.out.1 (by simp)
        have hc1 := HS.out.kw.cell_some D.out.2.1 (by simp)
        have hc2 := HS.out.kw.cell_some D.out.2.2 (by simp)
        have hgr : Hid (gotL b ⟨(encs (Fs.take j)).length, 0, 0⟩ Fs[j] = (true, ⟨(encs (Fs.take (j + 1))).length, 0, 0⟩)) := Lib.hid (by rw [HP.out, got_ok, encs_snoc Fs j hlt, List.length_append])
        have hgs : Hid (gotL (b ++ tl) ⟨(encs (Fs.take j)).length, 0, 0⟩ Fs[j] = (true, ⟨(encs (Fs.take (j + 1))).length, 0, 0⟩)) := Lib.hid (by rw [HP.out, List.append_assoc _ post tl, got_ok, encs_snoc Fs j hlt, List.length_append])
        have tokA : True := trivial
        have hSB : w.heap.size ≤ w1.heap.size := P1.out.2.2.2.1
        go_wp2_with fail
        refine (gotF_any w w1.heap.size p1 rv1 b _ _ Fs[j] wr HFv.out HS.out.kw HS.out.r1 P1.out.2.2.2.1).mono ?_
        rintro e x1 ⟨rfl, hx1, y1⟩
        have X1 := Lib.hid hx1
        have Y1 := Lib.hid y1
        have KX1 : Hid (Kp [] w x1) := Lib.hid (HS.out.kw.trans y1 (fun m hm => by rw [List.mem_singleton] at hm; subst hm; exact .inr P1.out.1))
        have XS : Hid (Rr x1 w4.heap.size p2 rv2 (b ++ tl) ⟨(encs (Fs.take j)).length, 0, 0⟩) := Lib.hid (HS.out.r2.kp y1 (by rw [List.mem_singleton]; exact fun h => D12.out.1 h.symm) (fun g hg => by rw [List.mem_singleton]; rintro rfl; exact D12.out.2.2.2.1 hg))
        rw [hgr.out] at X1 ⊢
        clear hx1 y1 hc0 hc1 hc2
        have hc0 := KX1.out.cell_some D.out.1 (by simp)
        have hc1 := KX1.out.cell_some D.out.2.1 (by simp)
        have hc2 := KX1.out.cell_some D.out.2.2 (by simp)
        go_wp2_with fail
        refine (gotF_any w w4.heap.size p2 rv2 (b ++ tl) _ _ Fs[j] x1 HFv.out KX1.out XS.out P1.out.2.2.2.2.1).mono ?_
        rintro e x2 ⟨rfl, hx2, y2⟩
        have X2 := Lib.hid hx2
        have KX2 : Hid (Kp [] w x2) := Lib.hid (KX1.out.trans y2 (fun m hm => by rw [List.mem_singleton] at hm; subst hm; exact .inr P1.out.2.1))
        have X12 : Hid (Rr x2 w1.heap.size p1 rv1 b ⟨(encs (Fs.take (j + 1))).length, 0, 0⟩) := Lib.hid (X1.out.kp y2 (by rw [List.mem_singleton]; exact fun h => D12.out.1 h) (fun g hg => by rw [List.mem_singleton]; rintro rfl; exact D12.out.2.2.2.2.2.1 hg))
        have hq3 : ∀ B s, Rr wr B p3 rv3 (b.take k) s → Rr x2 B p3 rv3 (b.take k) s := fun B s h =>
          (h.kp Y1.out (by rw [List.mem_singleton]; exact fun h => D12.out.2.1 h.symm) (fun g hg => by rw [List.mem_singleton]; rintro rfl; exact D12.out.2.2.2.2.1 hg)).kp y2 (by rw [List.mem_singleton]; exact fun h => D12.out.2.2.1 h.symm) (fun g hg => by rw [List.mem_singleton]; rintro rfl; exact D12.out.2.2.2.2.2.2.1 hg)
        have R3' : Hid (∃ s3 : Rst, Rr x2 w5.heap.size p3 rv3 (b.take k) s3 ∧ ((t = -1 ∧ s3 = ⟨(encs (Fs.take j)).length, 0, 0⟩ ∧ (encs (Fs.take j)).length ≤ k) ∨ (∃ n : Nat, t = n ∧ s3 = ⟨n, n, 10⟩ ∧ n ≤ k ∧ k < (encs (Fs.take j)).length))) := Lib.hid (by
          rcases HS.out.r3 with ⟨h1, h2, h3⟩ | ⟨n, h1, h2, h3⟩
          · exact ⟨_, hq3 _ _ h2, .inl ⟨h1, rfl, h3⟩⟩
          · exact ⟨_, hq3 _ _ h2, .inr ⟨n, h1, rfl, h3⟩⟩)
        rw [hgs.out] at X2 ⊢
        clear hx2 y2 hq3 hc0 hc1 hc2 X1 Y1 XS HS
        obtain ⟨s3, hs3, hst⟩ := R3'.out
        have S3 := Lib.hid hs3
        have ST := Lib.hid hst
        clear hs3 hst R3'
        have hc0 := KX2.out.cell_some D.out.1 (by simp)
        have hc1 := KX2.out.cell_some D.out.2.1 (by simp)
        have hc2 := KX2.out.cell_some D.out.2.2 (by simp)
        go_wp2_with fail
        refine (gotF_any w w5.heap.size p3 rv3 (b.take k) _ _ Fs[j] x2 HFv.out KX2.out S3.out P1.out.2.2.2.2.2).mono ?_
        rintro e x3 ⟨rfl, hx3, y3⟩
        have KX3 : Hid (Kp [] w x3) := Lib.hid (KX2.out.trans y3 (fun m hm => by rw [List.mem_singleton] at hm; subst hm; exact .inr P1.out.2.2.1))
        have X13 : Hid (Rr x3 w1.heap.size p1 rv1 b ⟨(encs (Fs.take (j + 1))).length, 0, 0⟩) := Lib.hid (X12.out.kp y3 (by rw [List.mem_singleton]; exact fun h => D12.out.2.1 h) (fun g hg => by rw [List.mem_singleton]; rintro rfl; exact D12.out.2.2.2.2.2.2.2.1 hg))
        have X23 : Hid (Rr x3 w4.heap.size p2 rv2 (b ++ tl) ⟨(encs (Fs.take (j + 1))).length, 0, 0⟩) := Lib.hid (X2.out.kp y3 (by rw [List.mem_singleton]; exact fun h => D12.out.2.2.1 h) (fun g hg => by rw [List.mem_singleton]; rintro rfl; exact D12.out.2.2.2.2.2.2.2.2 hg))
        have X33 := Lib.hid hx3
        clear hx3 y3 hc0 hc1 hc2 X12 X2 S3 KX2 KX1
        have hc0 := KX3.out.cell_some D.out.1 (by simp)
        have hc1 := KX3.out.cell_some D.out.2.1 (by simp)
        have hc2 := KX3.out.cell_some D.out.2.2 (by simp)
        have hlen : Hid ((encs (Fs.take (j + 1))).length = (encs (Fs.take j)).length + (enc Fs[j]).length) := Lib.hid (by rw [encs_snoc Fs j hlt, List.length_append])
        have hel := enc_le Fs[j]
        rcases ST.out with ⟨rfl, rfl, hLk⟩ | ⟨n, rfl, rfl, hnk, hkL⟩
        · by_cases hk1 : (encs (Fs.take (j + 1))).length ≤ k
          · have hg3 : gotL (b.take k) ⟨(encs (Fs.take j)).length, 0, 0⟩ Fs[j] = (true, ⟨(encs (Fs.take (j + 1))).length, 0, 0⟩) := by
              rw [HP.out, List.take_append, List.take_of_length_le (by rw [List.length_append]; have := hlen.out; omega), got_ok, hlen.out]
            rw [hg3] at X33 ⊢
            go_wp2_with fail
            refine (size_any w _ Fs[j] x3 HFv.out).mono ?_
            rintro e x4 ⟨rfl, y4⟩
            have Y4 := Lib.hid y4
            clear y4 hc0 hc1 hc2
            have hc0 := (KX3.out.trans0 Y4.out).cell_some D.out.1 (by simp)
            have hc1 := (KX3.out.trans0 Y4.out).cell_some D.out.2.1 (by simp)
            have hc2 := (KX3.out.trans0 Y4.out).cell_some D.out.2.2 (by simp)
            have HL := hlen.out
            go_wp2_with fail
            refine (size_any w _ Fs[j] x4 HFv.out).mono ?_
            rintro e x5 ⟨rfl, y5⟩
            have Y5 := Lib.hid (Y4.out.trans0 y5)
            clear y5 hc0 hc1 hc2
            go_wp2_with fail
            go_roundw
            case rel => exact ⟨j + 1, _, by omega, by omega, by go_num, by rw [hlen.out]; go_num, rfl, Lib.hid ⟨X13.out.kp0 Y5.out, X23.out.kp0 Y5.out, KX3.out.trans0 Y5.out, .inl ⟨rfl, X33.out.kp0 Y5.out, hk1⟩⟩⟩
            case measure => simp [intOf]; omega
          · have hg3 : (gotL (b.take k) ⟨(encs (Fs.take j)).length, 0, 0⟩ Fs[j]).2 = ⟨(encs (Fs.take j)).length, (encs (Fs.take j)).length, 10⟩ := by
              rw [HP.out, got_short _ _ _ _ _ hLk (by have := hlen.out; omega)]
            rw [hg3] at X33
            generalize (gotL (b.take k) ⟨(encs (Fs.take j)).length, 0, 0⟩ Fs[j]).1 = u at *
            clear hg3
            go_wp2_with fail
            refine (size_any w _ Fs[j] x3 HFv.out).mono ?_
            rintro e x4 ⟨rfl, y4⟩
            have Y4 := Lib.hid y4
            clear y4 hc0 hc1 hc2
            have hc0 := (KX3.out.trans0 Y4.out).cell_some D.out.1 (by simp)
            have hc1 := (KX3.out.trans0 Y4.out).cell_some D.out.2.1 (by simp)
            have hc2 := (KX3.out.trans0 Y4.out).cell_some D.out.2.2 (by simp)
            have HL := hlen.out
            go_wp2_with fail
            refine (size_any w _ Fs[j] x4 HFv.out).mono ?_
            rintro e x5 ⟨rfl, y5⟩
            have Y5 := Lib.hid (Y4.out.trans0 y5)
            clear y5 hc0 hc1 hc2
            go_wp2_with fail
            go_roundw
            case rel => exact ⟨j + 1, _, by omega, by omega, by go_num, by rw [hlen.out]; go_num, rfl, Lib.hid ⟨X13.out.kp0 Y5.out, X23.out.kp0 Y5.out, KX3.out.trans0 Y5.out, .inr ⟨_, rfl, X33.out.kp0 Y5.out, hLk, by omega⟩⟩⟩
            case measure => simp [intOf]; omega
        · have hg3 : (gotL (b.take k) ⟨n, n, 10⟩ Fs[j]).2 = ⟨n, n, 10⟩ := got_fault _ _ _ (by simp)
          rw [hg3] at X33
          generalize (gotL (b.take k) ⟨n, n, 10⟩ Fs[j]).1 = u at *
          clear hg3
          have HL := hlen.out
          go_wp2_with fail
          refine (size_any w _ Fs[j] x3 HFv.out).mono ?_
          rintro e x5 ⟨rfl, y5⟩
          have Y5 := Lib.hid y5
          clear y5 hc0 hc1 hc2
          go_wp2_with fail
          go_roundw
          case rel => exact ⟨j + 1, _, by omega, by omega, by go_num, by rw [hlen.out]; go_num, rfl, Lib.hid ⟨X13.out.kp0 Y5.out, X23.out.kp0 Y5.out, KX3.out.trans0 Y5.out, .inr ⟨_, rfl, X33.out.kp0 Y5.out, hnk, by omega⟩⟩⟩
          case measure => simp [intOf]; omega
      · have hj' : j = 20 := by omega
        subst hj'
        have hEb : encs (Fs.take 20) = b := HB.out
        have E1 := Lib.hid HS.out.r1
        have E2 := Lib.hid HS.out.r2
        have E3 := Lib.hid HS.out.r3
        have EK := Lib.hid HS.out.kw
        clear HS
        rw [hEb] at E1 E2 E3 ⊢
        clear hEb hle2 HF HT HB Q1 Q2 R3 K6
        go_wp2_with fail
        refine (left_eq w1.heap.size p1 rv1 b _ wr 0 E1.out (by simp)).mono ?_
        rintro e w' ⟨rfl, n1, rfl⟩
        go_wp2_with fail
        refine (left_eq w4.heap.size p2 rv2 (b ++ tl) _ _ tl.length (E2.out.kp0 (by (repeat (first | exact Kp.refl _ _ | assumption | refine Kp.drewN ?_ _ | refine Kp.drew ?_ | refine Kp.alloc ?_ _ | refine Kp.trans0 ?_ (by assumption))))) (by simp; omega)).mono ?_
        rintro e w' ⟨rfl, n2, rfl⟩
        have F1 := Lib.hid (E1.out.kp0 (((Kp.refl [] wr).drewN n1).drewN n2))
        have F2 := Lib.hid (E2.out.kp0 (((Kp.refl [] wr).drewN n1).drewN n2))
        have F3 : Hid (∃ s3 : Rst, Rr ((wr.drewN n1).drewN n2) w5.heap.size p3 rv3 (b.take k) s3 ∧ (s3.f = 0 → s3.wh = 0) ∧ endL (b.take k) s3 = s3 ∧ ((t = -1 ∧ s3.wh = 0 ∧ s3.f = 0) ∨ (∃ n : Nat, t = n ∧ s3 = ⟨n, n, 10⟩ ∧ n ≤ k))) := Lib.hid (by
          rcases E3.out with ⟨h1, h2, h3⟩ | ⟨n, h1, h2, h3, h4⟩
          · exact ⟨_, h2.kp0 (((Kp.refl [] wr).drewN n1).drewN n2), fun _ => rfl, by unfold endL; rw [if_neg]; simp; omega, .inl ⟨h1, rfl, rfl⟩⟩
          · exact ⟨_, h2.kp0 (((Kp.refl [] wr).drewN n1).drewN n2), by simp, by unfold endL; rw [if_neg]; simp, .inr ⟨n, h1, rfl, h3⟩⟩)
        have FK := Lib.hid ((EK.out.drewN n1).drewN n2)
        clear E1 E2 E3 EK
        generalize (wr.drewN n1).drewN n2 = z at *
        go_wp2_with fail
        refine (rEnd_any w1.heap.size p1 rv1 b _ z F1.out).mono ?_
        rintro e z1 ⟨rfl, hr1, y1⟩
        have hE1 : endL b ⟨b.length, 0, 0⟩ = ⟨b.length, 0, 0⟩ := by unfold endL; rw [if_neg]; simp
        rw [hE1] at hr1
        have G1 := Lib.hid hr1
        have G2 : Hid (Rr z1 w4.heap.size p2 rv2 (b ++ tl) ⟨b.length, 0, 0⟩) := Lib.hid (F2.out.kp y1 (by rw [List.mem_singleton]; exact fun h => D12.out.1 h.symm) (fun g hg => by rw [List.mem_singleton]; rintro rfl; exact D12.out.2.2.2.1 hg))
        obtain ⟨s3, hs3, hsf, hse, hst⟩ := F3.out
        have G3 : Hid (Rr z1 w5.heap.size p3 rv3 (b.take k) s3) := Lib.hid (hs3.kp y1 (by rw [List.mem_singleton]; exact fun h => D12.out.2.1 h.symm) (fun g hg => by rw [List.mem_singleton]; rintro rfl; exact D12.out.2.2.2.2.1 hg))
        have GK : Hid (Kp [] w z1) := Lib.hid (FK.out.trans y1 (fun m hm => by rw [List.mem_singleton] at hm; subst hm; exact .inr P1.out.1))
        have ST := Lib.hid (And.intro hsf (And.intro hse hst))
        clear hr1 y1 hE1 hs3 hsf hse hst F1 F2 F3 FK
        go_wp2_with fail
        refine (rEnd_any w4.heap.size p2 rv2 (b ++ tl) _ z1 G2.out).mono ?_
        rintro e z2 ⟨rfl, hr2, y2⟩
        have I1 : Hid (Rr z2 w1.heap.size p1 rv1 b ⟨b.length, 0, 0⟩) := Lib.hid (G1.out.kp y2 (by rw [List.mem_singleton]; exact fun h => D12.out.1 h) (fun g hg => by rw [List.mem_singleton]; rintro rfl; exact D12.out.2.2.2.2.2.1 hg))
        have I2 := Lib.hid hr2
        have I3 : Hid (Rr z2 w5.heap.size p3 rv3 (b.take k) s3) := Lib.hid (G3.out.kp y2 (by rw [List.mem_singleton]; exact fun h => D12.out.2.2.1 h.symm) (fun g hg => by rw [List.mem_singleton]; rintro rfl; exact D12.out.2.2.2.2.2.2.1 hg))
        have IK : Hid (Kp [] w z2) := Lib.hid (GK.out.trans y2 (fun m hm => by rw [List.mem_singleton] at hm; subst hm; exact .inr P1.out.2.1))
        clear hr2 y2 G1 G2 G3 GK
        go_wp2_with fail
        refine (rEnd_any w5.heap.size p3 rv3 (b.take k) _ z2 I3.out).mono ?_
        rintro e z3 ⟨rfl, hr3, y3⟩
        rw [ST.out.2.1] at hr3
        have J1 : Hid (Rr z3 w1.heap.size p1 rv1 b ⟨b.length, 0, 0⟩) := Lib.hid (I1.out.kp y3 (by rw [List.mem_singleton]; exact fun h => D12.out.2.1 h) (fun g hg => by rw [List.mem_singleton]; rintro rfl; exact D12.out.2.2.2.2.2.2.2.1 hg))
        have J2 : Hid (Rr z3 w4.heap.size p2 rv2 (b ++ tl) (endL (b ++ tl) ⟨b.length, 0, 0⟩)) := Lib.hid (I2.out.kp y3 (by rw [List.mem_singleton]; exact fun h => D12.out.2.2.1 h) (fun g hg => by rw [List.mem_singleton]; rintro rfl; exact D12.out.2.2.2.2.2.2.2.2 hg))
        have J3 := Lib.hid hr3
        have JK : Hid (Kp [] w z3) := Lib.hid (IK.out.trans y3 (fun m hm => by rw [List.mem_singleton] at hm; subst hm; exact .inr P1.out.2.2.1))
        clear hr3 y3 I1 I2 I3 IK
        go_wp2_with fail
        refine (fault_at w1.heap.size p1 rv1 b _ z3 J1.out (fun _ => rfl)).mono ?_
        rintro e w' ⟨rfl, n3, rfl⟩
        have L2 := Lib.hid (J2.out.kp0 ((Kp.refl [] z3).drewN n3))
        have L3 := Lib.hid (J3.out.kp0 ((Kp.refl [] z3).drewN n3))
        have LK := Lib.hid (JK.out.drewN n3)
        clear J1 J2 J3 JK
        generalize z3.drewN n3 = z4 at *
        go_wp2_with fail
        refine (fault_at w4.heap.size p2 rv2 (b ++ tl) _ _ L2.out (by unfold endL; split <;> simp)).mono ?_
        rintro e w' ⟨rfl, n4, rfl⟩
        have M3 := Lib.hid (L3.out.kp0 ((Kp.refl [] z4).drewN n4))
        have MK := Lib.hid (LK.out.drewN n4)
        clear L2 L3 LK
        generalize z4.drewN n4 = z5 at *
        go_wp2_with fail
        refine (fault_at w5.heap.size p3 rv3 (b.take k) _ _ M3.out ST.out.1).mono ?_
        rintro e w' ⟨rfl, n5, rfl⟩
        have HJ3 := Lib.hid (M3.out.kp0 ((Kp.refl [] z5).drewN n5))
        have HJK := Lib.hid (MK.out.drewN n5)
        have HST := Lib.hid ST.out.2.2
        clear M3 MK ST
        generalize z5.drewN n5 = Z at *
        obtain ⟨a3, wh3, f3⟩ := s3
        by_cases htl0 : tl.length = 0
        · have hEn : endL (b ++ tl) ⟨b.length, 0, 0⟩ = ⟨b.length, 0, 0⟩ := by unfold endL; rw [if_neg]; simp; omega
          have hz0 : ((tl.length : Int) == 0) = true := by rw [htl0]; rfl
          rw [hEn]
          clear hEn htl0
          rcases HST.out with ⟨rfl, h1, h2⟩ | ⟨n, rfl, h1, hnk⟩
          · simp only at h1 h2
            subst h1 h2
            clear HST
            go_wp2_with fail
            go_ret
            exact ⟨rfl, by (repeat (first | exact Kp.refl _ _ | assumption | refine Kp.drewN ?_ _ | refine Kp.drew ?_ | refine Kp.alloc ?_ _ | refine Kp.trans0 ?_ (by assumption)))⟩
          · simp only [Rst.mk.injEq] at h1
            obtain ⟨rfl, rfl, rfl⟩ := h1
            clear HST
            go_wp2_with fail
            refine (left_eq w5.heap.size p3 rv3 (b.take k) _ Z ((k : Int) - (a3 : Int)) HJ3.out (by rw [List.length_take, Nat.min_eq_left hkb])).mono ?_
            rintro e w' ⟨rfl, n6, rfl⟩
            go_wp2_with fail
            go_ret
            exact ⟨by simp, by (repeat (first | exact Kp.refl _ _ | assumption | refine Kp.drewN ?_ _ | refine Kp.drew ?_ | refine Kp.alloc ?_ _ | refine Kp.trans0 ?_ (by assumption)))⟩
        · have hEn : endL (b ++ tl) ⟨b.length, 0, 0⟩ = ⟨b.length, b.length, 11⟩ := by unfold endL; rw [if_pos]; simp; omega
          have hz0 : ((tl.length : Int) == 0) = false := by rw [beq_eq_false_iff_ne]; omega
          rw [hEn]
          clear hEn htl0
          rcases HST.out with ⟨rfl, h1, h2⟩ | ⟨n, rfl, h1, hnk⟩
          · simp only at h1 h2
            subst h1 h2
            clear HST
            go_wp2_with fail
            go_ret
            exact ⟨rfl, by (repeat (first | exact Kp.refl _ _ | assumption | refine Kp.drewN ?_ _ | refine Kp.drew ?_ | refine Kp.alloc ?_ _ | refine Kp.trans0 ?_ (by assumption)))⟩
          · simp only [Rst.mk.injEq] at h1
            obtain ⟨rfl, rfl, rfl⟩ := h1
            clear HST
            go_wp2_with fail
            refine (left_eq w5.heap.size p3 rv3 (b.take k) _ Z ((k : Int) - (a3 : Int)) HJ3.out (by rw [List.length_take, Nat.min_eq_left hkb])).mono ?_
            rintro e w' ⟨rfl, n6, rfl⟩
            go_wp2_with fail
            go_ret
            exact ⟨by simp, by (repeat (first | exact Kp.refl _ _ | assumption | refine Kp.drewN ?_ _ | refine Kp.drew ?_ | refine Kp.alloc ?_ _ | refine Kp.trans0 ?_ (by assumption)))⟩
    · have hjl : j = Fs.length := by omega
      subst hjl
      · have hEb : encs (Fs.take Fs.length) = b := by rw [List.take_length, ← HB.out, List.take_of_length_le (by omega)]
        have E1 := Lib.hid HS.out.r1
        have E2 := Lib.hid HS.out.r2
        have E3 := Lib.hid HS.out.r3
        have EK := Lib.hid HS.out.kw
        clear HS
        rw [hEb] at E1 E2 E3 ⊢
        clear hEb hle2 HF HT HB Q1 Q2 R3 K6
        go_wp2_with fail
        refine (left_eq w1.heap.size p1 rv1 b _ wr 0 E1.out (by simp)).mono ?_
        rintro e w' ⟨rfl, n1, rfl⟩
        go_wp2_with fail
        refine (left_eq w4.heap.size p2 rv2 (b ++ tl) _ _ tl.length (E2.out.kp0 (by (repeat (first | exact Kp.refl _ _ | assumption | refine Kp.drewN ?_ _ | refine Kp.drew ?_ | refine Kp.alloc ?_ _ | refine Kp.trans0 ?_ (by assumption))))) (by simp; omega)).mono ?_
        rintro e w' ⟨rfl, n2, rfl⟩
        have F1 := Lib.hid (E1.out.kp0 (((Kp.refl [] wr).drewN n1).drewN n2))
        have F2 := Lib.hid (E2.out.kp0 (((Kp.refl [] wr).drewN n1).drewN n2))
        have F3 : Hid (∃ s3 : Rst, Rr ((wr.drewN n1).drewN n2) w5.heap.size p3 rv3 (b.take k) s3 ∧ (s3.f = 0 → s3.wh = 0) ∧ endL (b.take k) s3 = s3 ∧ ((t = -1 ∧ s3.wh = 0 ∧ s3.f = 0) ∨ (∃ n : Nat, t = n ∧ s3 = ⟨n, n, 10⟩ ∧ n ≤ k))) := Lib.hid (by
          rcases E3.out with ⟨h1, h2, h3⟩ | ⟨n, h1, h2, h3, h4⟩
          · exact ⟨_, h2.kp0 (((Kp.refl [] wr).drewN n1).drewN n2), fun _ => rfl, by unfold endL; rw [if_neg]; simp; omega, .inl ⟨h1, rfl, rfl⟩⟩
          · exact ⟨_, h2.kp0 (((Kp.refl [] wr).drewN n1).drewN n2), by simp, by unfold endL; rw [if_neg]; simp, .inr ⟨n, h1, rfl, h3⟩⟩)
        have FK := Lib.hid ((EK.out.drewN n1).drewN n2)
        clear E1 E2 E3 EK
        generalize (wr.drewN n1).drewN n2 = z at *
        go_wp2_with fail
        refine (rEnd_any w1.heap.size p1 rv1 b _ z F1.out).mono ?_
        rintro e z1 ⟨rfl, hr1, y1⟩
        have hE1 : endL b ⟨b.length, 0, 0⟩ = ⟨b.length, 0, 0⟩ := by unfold endL; rw [if_neg]; simp
        rw [hE1] at hr1
        have G1 := Lib.hid hr1
        have G2 : Hid (Rr z1 w4.heap.size p2 rv2 (b ++ tl) ⟨b.length, 0, 0⟩) := Lib.hid (F2.out.kp y1 (by rw [List.mem_singleton]; exact fun h => D12.out.1 h.symm) (fun g hg => by rw [List.mem_singleton]; rintro rfl; exact D12.out.2.2.2.1 hg))
        obtain ⟨s3, hs3, hsf, hse, hst⟩ := F3.out
        have G3 : Hid (Rr z1 w5.heap.size p3 rv3 (b.take k) s3) := Lib.hid (hs3.kp y1 (by rw [List.mem_singleton]; exact fun h => D12.out.2.1 h.symm) (fun g hg => by rw [List.mem_singleton]; rintro rfl; exact D12.out.2.2.2.2.1 hg))
        have GK : Hid (Kp [] w z1) := Lib.hid (FK.out.trans y1 (fun m hm => by rw [List.mem_singleton] at hm; subst hm; exact .inr P1.out.1))
        have ST := Lib.hid (And.intro hsf (And.intro hse hst))
        clear hr1 y1 hE1 hs3 hsf hse hst F1 F2 F3 FK
        go_wp2_with fail
        refine (rEnd_any w4.heap.size p2 rv2 (b ++ tl) _ z1 G2.out).mono ?_
        rintro e z2 ⟨rfl, hr2, y2⟩
        have I1 : Hid (Rr z2 w1.heap.size p1 rv1 b ⟨b.length, 0, 0⟩) := Lib.hid (G1.out.kp y2 (by rw [List.mem_singleton]; exact fun h => D12.out.1 h) (fun g hg => by rw [List.mem_singleton]; rintro rfl; exact D12.out.2.2.2.2.2.1 hg))
        have I2 := Lib.hid hr2
        have I3 : Hid (Rr z2 w5.heap.size p3 rv3 (b.take k) s3) := Lib.hid (G3.out.kp y2 (by rw [List.mem_singleton]; exact fun h => D12.out.2.2.1 h.symm) (fun g hg => by rw [List.mem_singleton]; rintro rfl; exact D12.out.2.2.2.2.2.2.1 hg))
        have IK : Hid (Kp [] w z2) := Lib.hid (GK.out.trans y2 (fun m hm => by rw [List.mem_singleton] at hm; subst hm; exact .inr P1.out.2.1))
        clear hr2 y2 G1 G2 G3 GK
        go_wp2_with fail
        refine (rEnd_any w5.heap.size p3 rv3 (b.take k) _ z2 I3.out).mono ?_
        rintro e z3 ⟨rfl, hr3, y3⟩
        rw [ST.out.2.1] at hr3
        have J1 : Hid (Rr z3 w1.heap.size p1 rv1 b ⟨b.length, 0, 0⟩) := Lib.hid (I1.out.kp y3 (by rw [List.mem_singleton]; exact fun h => D12.out.2.1 h) (fun g hg => by rw [List.mem_singleton]; rintro rfl; exact D12.out.2.2.2.2.2.2.2.1 hg))
        have J2 : Hid (Rr z3 w4.heap.size p2 rv2 (b ++ tl) (endL (b ++ tl) ⟨b.length, 0, 0⟩)) := Lib.hid (I2.out.kp y3 (by rw [List.mem_singleton]; exact fun h => D12.out.2.2.1 h) (fun g hg => by rw [List.mem_singleton]; rintro rfl; exact D12.out.2.2.2.2.2.2.2.2 hg))
        have J3 := Lib.hid hr3
        have JK : Hid (Kp [] w z3) := Lib.hid (IK.out.trans y3 (fun m hm => by rw [List.mem_singleton] at hm; subst hm; exact .inr P1.out.2.2.1))
        clear hr3 y3 I1 I2 I3 IK
        go_wp2_with fail
        refine (fault_at w1.heap.size p1 rv1 b _ z3 J1.out (fun _ => rfl)).mono ?_
        rintro e w' ⟨rfl, n3, rfl⟩
        have L2 := Lib.hid (J2.out.kp0 ((Kp.refl [] z3).drewN n3))
        have L3 := Lib.hid (J3.out.kp0 ((Kp.refl [] z3).drewN n3))
        have LK := Lib.hid (JK.out.drewN n3)
        clear J1 J2 J3 JK
        generalize z3.drewN n3 = z4 at *
        go_wp2_with fail
        refine (fault_at w4.heap.size p2 rv2 (b ++ tl) _ _ L2.out (by unfold endL; split <;> simp)).mono ?_
        rintro e w' ⟨rfl, n4, rfl⟩
        have M3 := Lib.hid (L3.out.kp0 ((Kp.refl [] z4).drewN n4))
        have MK := Lib.hid (LK.out.drewN n4)
        clear L2 L3 LK
        generalize z4.drewN n4 = z5 at *
        go_wp2_with fail
        refine (fault_at w5.heap.size p3 rv3 (b.take k) _ _ M3.out ST.out.1).mono ?_
        rintro e w' ⟨rfl, n5, rfl⟩
        have HJ3 := Lib.hid (M3.out.kp0 ((Kp.refl [] z5).drewN n5))
        have HJK := Lib.hid (MK.out.drewN n5)
        have HST := Lib.hid ST.out.2.2
        clear M3 MK ST
        generalize z5.drewN n5 = Z at *
        obtain ⟨a3, wh3, f3⟩ := s3
        by_cases htl0 : tl.length = 0
        · have hEn : endL (b ++ tl) ⟨b.length, 0, 0⟩ = ⟨b.length, 0, 0⟩ := by unfold endL; rw [if_neg]; simp; omega
          have hz0 : ((tl.length : Int) == 0) = true := by rw [htl0]; rfl
          rw [hEn]
          clear hEn htl0
          rcases HST.out with ⟨rfl, h1, h2⟩ | ⟨n, rfl, h1, hnk⟩
          · simp only at h1 h2
            subst h1 h2
            clear HST
            go_wp2_with fail
            go_ret
            exact ⟨rfl, by (repeat (first | exact Kp.refl _ _ | assumption | refine Kp.drewN ?_ _ | refine Kp.drew ?_ | refine Kp.alloc ?_ _ | refine Kp.trans0 ?_ (by assumption)))⟩
          · simp only [Rst.mk.injEq] at h1
            obtain ⟨rfl, rfl, rfl⟩ := h1
            clear HST
            go_wp2_with fail
            refine (left_eq w5.heap.size p3 rv3 (b.take k) _ Z ((k : Int) - (a3 : Int)) HJ3.out (by rw [List.length_take, Nat.min_eq_left hkb])).mono ?_
            rintro e w' ⟨rfl, n6, rfl⟩
            go_wp2_with fail
            go_ret
            exact ⟨by simp, by (repeat (first | exact Kp.refl _ _ | assumption | refine Kp.drewN ?_ _ | refine Kp.drew ?_ | refine Kp.alloc ?_ _ | refine Kp.trans0 ?_ (by assumption)))⟩
        · have hEn : endL (b ++ tl) ⟨b.length, 0, 0⟩ = ⟨b.length, b.length, 11⟩ := by unfold endL; rw [if_pos]; simp; omega
          have hz0 : ((tl.length : Int) == 0) = false := by rw [beq_eq_false_iff_ne]; omega
          rw [hEn]
          clear hEn htl0
          rcases HST.out with ⟨rfl, h1, h2⟩ | ⟨n, rfl, h1, hnk⟩
          · simp only at h1 h2
            subst h1 h2
            clear HST
            go_wp2_with fail
            go_ret
            exact ⟨rfl, by (repeat (first | exact Kp.refl _ _ | assumption | refine Kp.drewN ?_ _ | refine Kp.drew ?_ | refine Kp.alloc ?_ _ | refine Kp.trans0 ?_ (by assumption)))⟩
          · simp only [Rst.mk.injEq] at h1
            obtain ⟨rfl, rfl, rfl⟩ := h1
            clear HST
            go_wp2_with fail
            refine (left_eq w5.heap.size p3 rv3 (b.take k) _ Z ((k : Int) - (a3 : Int)) HJ3.out (by rw [List.length_take, Nat.min_eq_left hkb])).mono ?_
            rintro e w' ⟨rfl, n6, rfl⟩
            go_wp2_with fail
            go_ret
            exact ⟨by simp, by (repeat (first | exact Kp.refl _ _ | assumption | refine Kp.drewN ?_ _ | refine Kp.drew ?_ | refine Kp.alloc ?_ _ | refine Kp.trans0 ?_ (by assumption)))⟩
end Go.Proofs.Ytkceaepbjdfccaa
