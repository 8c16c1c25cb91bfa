/-
The whole script; how it came in as data.
-/
import Derived.Test.YtkceaepbjdfccaaDoorXE
import Derived.Test.YtkceaepbjdfccaaDoorFrameK
import Derived.Deep.Slices
import Derived.Deep.Fields
import Derived.ChangeSame
/-
'ParcelExact': the walk, over whatever tells of a text.
-/
namespace Go.Proofs.YtkceaepbjdfccaaDoor
open Go.RowKit
/-- one step of a script -/
structure Pop where
  kind : Int
  peer : ByteArray
  id : Int
  v : Value
  bs : List UInt8
structure Pop.ok (o : Pop) : Prop where
  k : -9223372036854775808 ≤ o.kind ∧ o.kind ≤ 9223372036854775807
  p : o.peer.size ≤ 140737488351232
  i : 0 ≤ o.id ∧ o.id < 4294967296
  b : o.bs.length ≤ 140737488351232
def Pop.cl (o : Pop) : List Value := [.int .i64 o.kind, .string o.peer, .int .u32 o.id, o.v]
/-- a script in memory -/
def Pops (w : World) (ao : Option Addr) (Fs : List Pop) : Prop := ∀ (i : Nat) (F : Pop), Fs[i]? = some F → ∃ b off, ao = some ⟨b, off, none⟩ ∧ w.rangeAt b (off + i * 4) F.cl ∧ Rd w F.v (bv F.bs) ∧ F.ok
theorem px_start {w w1 w2 : World} {F : Nat → Prop} {t r : Nat} {most : Int} (k1 : Kp [] w w1) (htr : TR w1 F t most []) (hF : ∀ b, F b → w.heap.size ≤ b) (k2 : Kp [] w1 w2) (hz : RTz w2 (fun _ => False) r most (.slice none 0 0) [] []) (hr : w1.heap.size ≤ r) : PX w w2 F (fun b => b = r) t r most [] [] :=
  ⟨k1.trans0 k2, htr.kp0 k2, ⟨(fun b hb => by subst hb; exact (Array.getElem?_eq_some_iff.1 hz.hr).1), _, _, _, hz, rfl, (fun b hb => by cases hb), fun b hb => hb.elim⟩, (fun b hb e => by subst e; have := htr.lt _ hb; omega), hF, fun b hb => by subst hb; exact Nat.le_trans k1.size hr⟩
set_option maxRecDepth 100000 in
set_option maxHeartbeats 4000000 in
theorem exactp_any (mk : List UInt8 → List UInt8) (most : Int) (ao : Option Addr) (cap : Nat) (Fs : List Pop) (w : World) (M : MKs mk w) (hS : Pops w ao Fs) (hl : Fs.length ≤ 140737488351232) (hmb : -9223372036854775808 ≤ most ∧ most ≤ 9223372036854775807) :
    Calls Tryd.prog 11 #[.int .i64 most, .slice ao Fs.length cap] w fun e w' => e = .returned (.bool true) ∧ Kp [] w w' := by
  have HS := Lib.hid hS
  obtain ⟨n, hn⟩ : ∃ n, Fs.length = n := ⟨_, rfl⟩
  have HN := Lib.hid hn
  rw [hn]
  have hn1 : n ≤ 140737488351232 := by rw [← hn]; exact hl
  have HSTEP : Hid (∀ W t r mst (F : Pop), PXn w W t r mst → F.ok → Rd w F.v (bv F.bs) → Calls Tryd.prog 32 #[.pointer (some ⟨t, 0, none⟩), .pointer (some ⟨r, 0, none⟩), .agg #[.int .i64 F.kind, .string F.peer, .int .u32 F.id, F.v]] W fun e w' => e = .returned (.bool true) ∧ PXn w w' t r mst) := Lib.hid (fun W t r mst F hx ok hr => by
    obtain ⟨F', H', T', hx⟩ := hx
    have := step_any mk M hx F.kind F.id F.peer.data.toList F.v F.bs ok.k ok.i (by rw [Array.length_toList]; exact ok.p) hr ok.b
    rw [strOf_data] at this
    exact this)
  have HLEN : Hid (∀ W t r mst, PXn w W t r mst → ∃ q : Nat, Calls Tryd.prog 29 #[.pointer (some ⟨t, 0, none⟩)] W (fun e w' => e = .returned (.int .i64 (q : Int)) ∧ W = w') ∧ Calls Tryd.prog 33 #[.pointer (some ⟨r, 0, none⟩)] W (fun e w' => e = .returned (.int .i64 (q : Int)) ∧ W = w')) := Lib.hid (fun W t r mst hx => by
    obtain ⟨F', H', T', hx⟩ := hx
    exact ⟨T'.length, px_len hx, px_rlen hx⟩)
  clear hS hn hl M
  obtain ⟨hm0, hm1⟩ := hmb
  by_cases hmo : 1 ≤ most ∧ most ≤ 64
  · have HNA : Hid (Calls Tryd.prog 25 #[.int .i64 most] w fun e w' => ∃ t F, e = .returned (.tuple #[.pointer (some ⟨t, 0, none⟩), .int .i64 0]) ∧ TR w' F t most [] ∧ (∀ b, F b → w.heap.size ≤ b) ∧ Kp [] w w') := Lib.hid (new1_any most w hmo.1 hmo.2)
    have HNB := Lib.hid (fun W => rnew_ok most W hmo)
    clear hmo hm0 hm1
    go_enter Tryd.func11, Tryd.ntmps11
    go_wp2_with (first
      | (go_at_call 25; go_must (refine HNA.out.mono ?_; rintro e w1 ⟨t, F0, rfl, htr, hf, hk1⟩; have HTR := Lib.hid htr; have HF0 := Lib.hid hf; have HK1 := Lib.hid hk1; clear htr hf hk1))
      | (go_at_call 31; go_must (refine (HNB.out w1).mono ?_; rintro e w2 ⟨r, rfl, hz, hrr, hk2⟩; have HX0 : Hid (PXn w w2 t r most) := Lib.hid ⟨_, _, _, px_start HK1.out HTR.out HF0.out hk2 hz hrr⟩; clear hz hrr hk2))
      | fail)
    go_loopw [9] (fun i wr => ∃ k : Nat, k ≤ n ∧ k ≤ 100 ∧ i = .int .i64 k ∧ Hid (PXn w wr t r most)) (fun i _ => n - (intOf i).toNat)
    case atStart => exact ⟨0, Nat.zero_le _, Nat.zero_le _, rfl, HX0⟩
    case round =>
      clear HX0
      obtain ⟨k, hk, hk100, rfl, HR⟩ := hrel
      by_cases hlt : k < n ∧ k < 100
      · obtain ⟨P, hP⟩ : ∃ P, Fs[k]? = some P := ⟨_, List.getElem?_eq_getElem (by rw [HN.out]; exact hlt.1)⟩
        obtain ⟨b, off, rfl, hrg, hrd, hok⟩ := HS.out k P hP
        have HRG : Hid (wr.rangeAt b (off + k * 4) [.int .i64 P.kind, .string P.peer, .int .u32 P.id, P.v]) := Lib.hid (by obtain ⟨_, _, _, hx⟩ := HR.out; exact range_kp hrg hx.k)
        have HSP := Lib.hid (HSTEP.out wr t r most P HR.out hok hrd)
        have hkI : (k : Int) < (n : Int) := by omega
        have hkJ : (k : Int) < 100 := by omega
        clear hrg hrd hok hP
        generalize P.kind = pk at *
        generalize P.peer = pp at *
        generalize P.id = pi at *
        generalize P.v = pv at *
        go_wp2_with (first
          | ((with_reducible refine wpList_load_mid ?sa1 74 (.tmp 64) ?sa2 b (off + k * 4) ?sa3 [.int .i64 pk, .string pp, .int .u32 pi, pv] ?sa4 ?sa5 ?sa6 ?sa7 ?sa8 ?sa9); (case sa1 => rfl); (case sa2 => rfl); (case sa3 => rfl); (case sa5 => exact HRG.out); (case sa6 => exact Tryd.underlying74); (case sa7 => rfl); (case sa8 => kernel_rfl))
          | (go_at_call 32; go_must (refine HSP.out.mono ?_; rintro e w4 ⟨rfl, hx4⟩; have HX4 := Lib.hid hx4; clear hx4))
          | fail)
        go_roundw
        case rel => exact ⟨k + 1, by omega, by omega, by go_num, HX4⟩
        case measure => simp [intOf]; omega
      · obtain ⟨q, hq1, hq2⟩ := HLEN.out wr t r most HR.out
        have HQ1 := Lib.hid hq1
        have HQ2 := Lib.hid hq2
        have HSL : Hid (Calls Tryd.prog 32 #[.pointer (some ⟨t, 0, none⟩), .pointer (some ⟨r, 0, none⟩), .agg #[.int .i64 6, .string ⟨#[]⟩, .int .u32 7, .slice none 0 0]] wr fun e w' => e = .returned (.bool true) ∧ PXn w w' t r most) := Lib.hid (HSTEP.out wr t r most ⟨6, ⟨#[]⟩, 7, .slice none 0 0, []⟩ HR.out ⟨by decide, by decide, by decide, by decide⟩ (Rd.nil w))
        clear hq1 hq2
        by_cases hkn : k < n
        · have hkI : (k : Int) < (n : Int) := by omega
          have hkJ : ¬ (k : Int) < 100 := by omega
          clear hlt hkn
          go_wp2_with (first
            | (go_at_call 29; go_must (refine HQ1.out.mono ?_; rintro e w5 ⟨rfl, rfl⟩))
            | (go_at_call 33; go_must (refine HQ2.out.mono ?_; rintro e w5 ⟨rfl, rfl⟩))
            | (go_at_call 32; go_must (refine HSL.out.mono ?_; rintro e w6 ⟨rfl, hx6⟩; have HK6 : Hid (Kp [] w w6) := Lib.hid (by obtain ⟨_, _, _, hx⟩ := hx6; exact hx.k); clear hx6))
            | fail)
          go_ret
          exact ⟨rfl, HK6.out⟩
        · have hkI : ¬ (k : Int) < (n : Int) := by omega
          clear hlt hkn
          go_wp2_with (first
            | (go_at_call 29; go_must (refine HQ1.out.mono ?_; rintro e w5 ⟨rfl, rfl⟩))
            | (go_at_call 33; go_must (refine HQ2.out.mono ?_; rintro e w5 ⟨rfl, rfl⟩))
            | (go_at_call 32; go_must (refine HSL.out.mono ?_; rintro e w6 ⟨rfl, hx6⟩; have HK6 : Hid (Kp [] w w6) := Lib.hid (by obtain ⟨_, _, _, hx⟩ := hx6; exact hx.k); clear hx6))
            | fail)
          go_ret
          exact ⟨rfl, HK6.out⟩

  · have HNA : Hid (Calls Tryd.prog 25 #[.int .i64 most] w fun e w' => e = .returned (.tuple #[.pointer none, .int .i64 2]) ∧ w = w') := Lib.hid ((newTray_any most w).mono fun e w' h => by
      rcases h with ⟨_, h⟩ | ⟨h1, h2, _⟩
      · exact h
      · exact absurd ⟨h1, h2⟩ hmo)
    have HNB := Lib.hid (fun W => rnew_bad most W hmo)
    have HNC := Lib.hid (fun W => new1_any 2 W (by decide) (by decide))
    have HND := Lib.hid (fun W => rnew_ok 2 W ⟨by decide, by decide⟩)
    clear hmo hm0 hm1
    go_enter Tryd.func11, Tryd.ntmps11
    go_wp2_with (first
      | (go_at_call 25; (with_reducible refine (HNC.out w).mono ?_); rintro e w1 ⟨t, F0, rfl, htr, hf, hk1⟩; have HTR := Lib.hid htr; have HF0 := Lib.hid hf; have HK1 := Lib.hid hk1; clear htr hf hk1)
      | (go_at_call 25; go_must (refine HNA.out.mono ?_; rintro e w0 ⟨rfl, rfl⟩; have HK0 := Lib.hid (Kp.refl [] w)))
      | (go_at_call 31; (with_reducible refine (HND.out w1).mono ?_); rintro e w2 ⟨r, rfl, hz, hrr, hk2⟩; have HX0 : Hid (PXn w w2 t r 2) := Lib.hid ⟨_, _, _, px_start (HK0.out.trans0 HK1.out) HTR.out (fun b hb => Nat.le_trans HK0.out.size (HF0.out b hb)) hk2 hz hrr⟩; clear hz hrr hk2)
      | (go_at_call 31; go_must (refine (HNB.out w).mono ?_; rintro e wq ⟨rfl, rfl⟩))
      | fail)
    go_loopw [9] (fun i wr => ∃ k : Nat, k ≤ n ∧ k ≤ 100 ∧ i = .int .i64 k ∧ Hid (PXn w wr t r 2)) (fun i _ => n - (intOf i).toNat)
    case atStart => exact ⟨0, Nat.zero_le _, Nat.zero_le _, rfl, HX0⟩
    case round =>
      clear HX0
      obtain ⟨k, hk, hk100, rfl, HR⟩ := hrel
      by_cases hlt : k < n ∧ k < 100
      · obtain ⟨P, hP⟩ : ∃ P, Fs[k]? = some P := ⟨_, List.getElem?_eq_getElem (by rw [HN.out]; exact hlt.1)⟩
        obtain ⟨b, off, rfl, hrg, hrd, hok⟩ := HS.out k P hP
        have HRG : Hid (wr.rangeAt b (off + k * 4) [.int .i64 P.kind, .string P.peer, .int .u32 P.id, P.v]) := Lib.hid (by obtain ⟨_, _, _, hx⟩ := HR.out; exact range_kp hrg hx.k)
        have HSP := Lib.hid (HSTEP.out wr t r 2 P HR.out hok hrd)
        have hkI : (k : Int) < (n : Int) := by omega
        have hkJ : (k : Int) < 100 := by omega
        clear hrg hrd hok hP
        generalize P.kind = pk at *
        generalize P.peer = pp at *
        generalize P.id = pi at *
        generalize P.v = pv at *
        go_wp2_with (first
          | ((with_reducible refine wpList_load_mid ?sb1 74 (.tmp 64) ?sb2 b (off + k * 4) ?sb3 [.int .i64 pk, .string pp, .int .u32 pi, pv] ?sb4 ?sb5 ?sb6 ?sb7 ?sb8 ?sb9); (case sb1 => rfl); (case sb2 => rfl); (case sb3 => rfl); (case sb5 => exact HRG.out); (case sb6 => exact Tryd.underlying74); (case sb7 => rfl); (case sb8 => kernel_rfl))
          | (go_at_call 32; go_must (refine HSP.out.mono ?_; rintro e w4 ⟨rfl, hx4⟩; have HX4 := Lib.hid hx4; clear hx4))
          | fail)
        go_roundw
        case rel => exact ⟨k + 1, by omega, by omega, by go_num, HX4⟩
        case measure => simp [intOf]; omega
      · obtain ⟨q, hq1, hq2⟩ := HLEN.out wr t r 2 HR.out
        have HQ1 := Lib.hid hq1
        have HQ2 := Lib.hid hq2
        have HSL : Hid (Calls Tryd.prog 32 #[.pointer (some ⟨t, 0, none⟩), .pointer (some ⟨r, 0, none⟩), .agg #[.int .i64 6, .string ⟨#[]⟩, .int .u32 7, .slice none 0 0]] wr fun e w' => e = .returned (.bool true) ∧ PXn w w' t r 2) := Lib.hid (HSTEP.out wr t r 2 ⟨6, ⟨#[]⟩, 7, .slice none 0 0, []⟩ HR.out ⟨by decide, by decide, by decide, by decide⟩ (Rd.nil w))
        clear hq1 hq2
        by_cases hkn : k < n
        · have hkI : (k : Int) < (n : Int) := by omega
          have hkJ : ¬ (k : Int) < 100 := by omega
          clear hlt hkn
          go_wp2_with (first
            | (go_at_call 29; go_must (refine HQ1.out.mono ?_; rintro e w5 ⟨rfl, rfl⟩))
            | (go_at_call 33; go_must (refine HQ2.out.mono ?_; rintro e w5 ⟨rfl, rfl⟩))
            | (go_at_call 32; go_must (refine HSL.out.mono ?_; rintro e w6 ⟨rfl, hx6⟩; have HK6 : Hid (Kp [] w w6) := Lib.hid (by obtain ⟨_, _, _, hx⟩ := hx6; exact hx.k); clear hx6))
            | fail)
          go_ret
          exact ⟨rfl, HK6.out⟩
        · have hkI : ¬ (k : Int) < (n : Int) := by omega
          clear hlt hkn
          go_wp2_with (first
            | (go_at_call 29; go_must (refine HQ1.out.mono ?_; rintro e w5 ⟨rfl, rfl⟩))
            | (go_at_call 33; go_must (refine HQ2.out.mono ?_; rintro e w5 ⟨rfl, rfl⟩))
            | (go_at_call 32; go_must (refine HSL.out.mono ?_; rintro e w6 ⟨rfl, hx6⟩; have HK6 : Hid (Kp [] w w6) := Lib.hid (by obtain ⟨_, _, _, hx⟩ := hx6; exact hx.k); clear hx6))
            | fail)
          go_ret
          exact ⟨rfl, HK6.out⟩

end Go.Proofs.YtkceaepbjdfccaaDoor
/-
'ParcelExact': the walk, over sha's tables and the document's.
-/
namespace Go.Proofs.YtkceaepbjdfccaaDoor
open Go.RowKit
theorem parcelExact_any (kk bg : List Int) (most : Int) (ao : Option Addr) (cap : Nat) (Fs : List Pop) (w : World) (hT : Tabs kk bg w) (hR : Tabr kk bg w) (hmb : -9223372036854775808 ≤ most ∧ most ≤ 9223372036854775807) (hS : Pops w ao Fs) (hl : Fs.length ≤ 140737488351232) :
    Calls Tryd.prog 11 #[.int .i64 most, .slice ao Fs.length cap] w fun e w' => e = .returned (.bool true) ∧ Kp [] w w' :=
  exactp_any (mark kk bg) most ao cap Fs w ⟨mark_len kk bg, fun W v l k hv h => marked_any kk bg v l W (hT.kp k) hv h, fun W v l k hv h => rsum8_any kk bg v l W (hR.kp k) hv h,
    fun id W v l h0 h1 k hv h => split_any kk bg id h0 h1 v l W (hT.kp k) hv h⟩ hS hl hmb
end Go.Proofs.YtkceaepbjdfccaaDoor
/-
A slice of calls of a parcel's script that came in as data; the four tables as they are laid; in this claim's words.
-/
namespace Go.Proofs.YtkceaepbjdfccaaDoor
open Go.ChangeShapes Go.WideShapes Go.ChangeAt Go.RowKit Go.Deep
/-- the four tables, as a row lists them -/
def laidRef {H : Type} : List (String × DataW H) := [("lethe/letheref02.constants", Lib.tabData .u64 kkD), ("lethe/letheref02.begin", Lib.tabData .u64 bgD), ("lethe/sha.constants", Lib.tabData .u32 kkD), ("lethe/sha.begin", Lib.tabData .u32 bgD)]
theorem gRK : Tryd.prog.globalNamed "lethe/letheref02.constants" = some 3 := by kernel_rfl
theorem gRB : Tryd.prog.globalNamed "lethe/letheref02.begin" = some 2 := by kernel_rfl
theorem gRKt : (Tryd.prog.globals[(3 : Nat)]?).map (·.type) = some 168 := by kernel_rfl
theorem gRBt : (Tryd.prog.globals[(2 : Nat)]?).map (·.type) = some 167 := by kernel_rfl
theorem kkD_w32 : ∀ x ∈ kkD, W32 x := by unfold W32; decide
theorem bgD_w32 : ∀ x ∈ bgD, W32 x := by unfold W32; decide
set_option maxRecDepth 100000 in
theorem tabs4_of {W : World} (h : laidMetH Tryd.prog laidRef W) : Tabs kkD bgD W ∧ Tabr kkD bgD W := by
  rw [MakeChecks.laidMetH_plain _ _ _ (by kernel_rfl)] at h
  obtain ⟨ps, ⟨g2, t2, cs2, f2, p2, q2, hg2, ht2, hv2, hd2, ⟨g3, t3, cs3, f3, p3, q3, hg3, ht3, hv3, hd3, ⟨g0, t0, cs0, f0, p0, q0, hg0, ht0, hv0, hd0, ⟨g1, t1, cs1, f1, p1, q1, hg1, ht1, hv1, hd1, _, _⟩, _⟩, _⟩, _⟩, _, _⟩ := h
  obtain rfl := Option.some.inj (gK.symm.trans hg0)
  obtain rfl := Option.some.inj (gB.symm.trans hg1)
  obtain rfl := Option.some.inj (gKt.symm.trans ht0)
  obtain rfl := Option.some.inj (gBt.symm.trans ht1)
  obtain rfl := Option.some.inj (gRK.symm.trans hg2)
  obtain rfl := Option.some.inj (gRB.symm.trans hg3)
  obtain rfl := Option.some.inj (gRKt.symm.trans ht2)
  obtain rfl := Option.some.inj (gRBt.symm.trans ht3)
  have e0 := Lib.cells_of_tab (e := 48) (n := 64) Tryd.underlying158 Tryd.underlying48 (by kernel_rfl) (by kernel_rfl) hd0
  have e1 := Lib.cells_of_tab (e := 48) (n := 8) Tryd.underlying126 Tryd.underlying48 (by kernel_rfl) (by kernel_rfl) hd1
  have e2 := Lib.cells_of_tab (e := 131) (n := 64) Tryd.underlying168 Tryd.underlying131 (by kernel_rfl) (by kernel_rfl) hd2
  have e3 := Lib.cells_of_tab (e := 131) (n := 8) Tryd.underlying167 Tryd.underlying131 (by kernel_rfl) (by kernel_rfl) hd3
  have c0 : cs0 = u32s kkD := by apply Array.ext'; rw [e0]; simp [u32s]
  have c1 : cs1 = u32s bgD := by apply Array.ext'; rw [e1]; simp [u32s]
  have c2 : cs2 = u64s kkD := by apply Array.ext'; rw [e2]; simp [u64s]
  have c3 : cs3 = u64s bgD := by apply Array.ext'; rw [e3]; simp [u64s]
  subst c0 c1 c2 c3
  exact ⟨⟨rfl, rfl, heap_of_var gK hv0, heap_of_var gB hv1⟩, ⟨rfl, rfl, kkD_w32, bgD_w32, heap_of_var gRK hv2, heap_of_var gRB hv3⟩⟩
set_option maxRecDepth 100000 in
/-- the door's own heap meets the condition -/
theorem door_met4 (os : Os) (args : Array Value) : laidMetH Tryd.prog laidRef ((World.doorLaid Tryd.prog 29 os).forCall (fun _ _ => 0) ⟨#[], args, []⟩).memory :=
  laidMetH_of_parts3 (fuel := 8) (laidMet_of_run' 8 (by kernel_rfl) (by kernel_rfl)) (by kernel_rfl) (by kernel_rfl)
/-- What the opening of a slice of integers tells: nil, or a row of cap cells. -/
def IsRow (k : IntKind) (w : World) (a : Option Addr) (len cap : Nat) (zs : List Int) : Prop :=
  (a = none ∧ len = 0 ∧ cap = 0 ∧ zs = []) ∨
  ∃ x, a = some x ∧ len ≤ cap ∧ zs.length = cap ∧ (∀ i, i < zs.length → w.cell? (x.add i) = some (.int k (zs.getD i 0))) ∧ ∀ n ∈ zs, (Lit.int k n).wf = true

theorem IsRow.bytes {w : World} {a : Option Addr} {len cap : Nat} {zs : List Int} (h : IsRow .u8 w a len cap zs) :
    ∃ l : List UInt8, l.length = len ∧ Rd w (.slice a len cap) (bv l) := by
  rcases h with ⟨rfl, rfl, rfl, rfl⟩ | ⟨x, rfl, hl, hz, hc, hw⟩
  · exact ⟨[], rfl, Rd.nil w⟩
  · refine ⟨(zs.take len).map fun n => UInt8.ofNat n.toNat, by simp; omega, ?_⟩
    have hlen : (bv ((zs.take len).map fun n => UInt8.ofNat n.toNat)).length = len := by simp [bv]; omega
    refine ⟨some x, cap, by rw [hlen], by rw [hlen]; exact hl, (fun h => by cases h), fun b hb => ?_⟩
    cases hb
    intro i u hu
    have hi : i < len := by rw [← hlen]; exact (List.getElem?_eq_some_iff.1 hu).1
    have hiz : i < zs.length := by omega
    rw [hc i hiz]
    have hwf := bounds_u8 (hw zs[i] (List.getElem_mem hiz))
    unfold bv at hu
    simp only [List.map_map, List.getElem?_map, List.getElem?_take, if_pos hi, List.getElem?_eq_getElem hiz, Option.map_some, Function.comp_apply, Option.some.injEq] at hu
    rw [← hu, u8_ofInt _ hwf.1 (by omega)]
    simp [List.getD, List.getElem?_eq_getElem hiz]
instance : Inhabited Pop := ⟨⟨0, ByteArray.empty, 0, .slice none 0 0, []⟩⟩
section
variable {H : Type} {enc : TypeId × Value → H} {W : World} {base : Nat} {spare : Nat → Bool} {held : Bool}
theorem weights_of_elem {P : Program} {e : TypeId} : ∀ {l : List (DataW H)} {d : DataW H}, d ∈ l → ∀ n ∈ d.weights P e, n ∈ DataW.weightsAll P e l
  | x :: r, d, h, n, hn => by
    simp only [DataW.weightsAll, List.mem_append]
    rcases List.mem_cons.1 h with rfl | h
    · exact .inl hn
    · exact .inr (weights_of_elem h n hn)
set_option maxRecDepth 20000 in
/-- a slice of bytes in one cell -/
theorem open_bytes {fuel : Nat} {v : Value} {y : DataW H × List MemPlace} (h : DataW.trod enc Tryd.prog W base spare held fuel 27 [v] = some y) (hw : ∀ n ∈ y.1.weights Tryd.prog 27, n ≤ reachBytes) :
    ∃ ao cap l, v = .slice ao l.length cap ∧ Rd W (.slice ao l.length cap) (bv l) ∧ l.length ≤ 140737488351232 := by
  rcases open_ints Tryd.underlying27 Tryd.underlying5 (by kernel_rfl) h with ⟨hcs, _⟩ | ⟨x, l, c, zs, hcs, _, hl, hm, hz, hx, hcell, hwz⟩
  · simp at hcs
    subst hcs
    exact ⟨none, 0, [], rfl, Rd.nil W, by simp⟩
  · simp at hcs
    subst hcs hx
    have hq := hw ((lits .u8 (zs.take l)).length + (lits .u8 (zs.drop l)).length) (by simp only [DataW.weights, Tryd.underlying27]; rw [show Tryd.prog.bytesOf 5 = 1 from by kernel_rfl]; exact List.mem_cons.2 (.inl (Nat.mul_one _).symm))
    simp only [lits, List.length_map, List.length_take, List.length_drop, reachBytes] at hq
    have hz' : l ≤ zs.length := by rw [hz]; split <;> omega
    have hr : IsRow .u8 W (some x) l zs.length zs := .inr ⟨_, rfl, hz', rfl, hcell, hwz⟩
    obtain ⟨l', hl', hr'⟩ := hr.bytes
    subst hl'
    refine ⟨some x, c, l', rfl, ?_, by omega⟩
    obtain ⟨ao, cap, e, h1, h2, h3⟩ := hr'
    simp only [Value.slice.injEq] at e
    obtain ⟨rfl, h4, _⟩ := e
    exact ⟨some x, c, by rw [h4], by rw [← h4]; exact hl, (fun h => by cases h), h3⟩
set_option maxRecDepth 100000 in
/-- a slice of calls -/
theorem open_pops {fuel : Nat} {v : Value} {y : DataW H × List MemPlace} (h : DataW.trod enc Tryd.prog W base spare held fuel 68 [v] = some y) (hw : ∀ n ∈ y.1.weights Tryd.prog 68, n ≤ reachBytes) :
    ∃ ao cap Fs, v = .slice ao (List.length Fs) cap ∧ Pops W ao Fs ∧ Fs.length ≤ 140737488351232 := by
  rcases open_slice Tryd.underlying68 h with ⟨hcs, _⟩ | ⟨a, len, cap, m, n, D, Pl, hcs, hb, hl, hm, hmm, rfl, hi⟩
  · simp at hcs
    subst hcs
    exact ⟨none, 0, [], rfl, fun i F hF => by simp at hF, by simp⟩
  · simp at hcs
    subst hcs
    rw [show Tryd.prog.cellsOf 74 = 4 from by kernel_rfl] at hi
    have hlm : len ≤ m := by rw [hmm]; split <;> omega
    have hbig : len ≤ 140737488351232 := by
      have h1 := hw ((((List.range len).map D).length + ((List.range (m - len)).map fun j => D (len + j)).length) * Tryd.prog.bytesOf 74) (by simp only [DataW.weights, Tryd.underlying68]; exact List.mem_cons.2 (.inl rfl))
      rw [show Tryd.prog.bytesOf 74 = 56 from by kernel_rfl] at h1
      simp only [List.length_map, List.length_range, reachBytes] at h1
      omega
    have hspot : 0 < len → a.spot = none := by
      intro h0
      obtain ⟨cs', hc, _⟩ := hi 0 (by omega)
      obtain ⟨_, hcl, hat⟩ := World.cells?_some hc
      have c0 := hat 0 (by omega)
      rw [List.getElem?_eq_getElem (by omega)] at c0
      have hsp := World.cell?_spot c0
      simpa [Addr.add] using hsp
    have per : ∀ i, i < len → ∃ F : Pop, ∃ b off, a = ⟨b, off, none⟩ ∧ W.rangeAt b (off + i * 4) F.cl ∧ Rd W F.v (bv F.bs) ∧ F.ok := by
      intro i hil
      obtain ⟨cs', hc, ht'⟩ := hi i (by omega)
      obtain ⟨_, hcl, hat⟩ := World.cells?_some hc
      obtain ⟨xs, n', _, hy, _, hxl, hf⟩ := DataW.trod_struct Tryd.underlying74 ht'
      match cs', hcl with
      | [v0, v1, v2, v3], _ =>
      match xs, hxl with
      | [y0, y1, y2, y3], _ =>
      have f0 := hf 0 _ rfl
      have f1 := hf 1 _ rfl
      have f2 := hf 2 _ rfl
      have f3 := hf 3 _ rfl
      simp [show Tryd.prog.cellsOf 3 = 1 from by kernel_rfl] at f0
      simp [show Tryd.prog.cellsOf 9 = 1 from by kernel_rfl] at f1
      simp [show Tryd.prog.cellsOf 48 = 1 from by kernel_rfl] at f2
      simp [show Tryd.prog.cellsOf 27 = 1 from by kernel_rfl] at f3
      obtain ⟨k0, e0, _, b0⟩ := DataW.trod_int Tryd.underlying3 f0
      obtain ⟨s1, e1, d1, _⟩ := DataW.trod_string Tryd.underlying9 f1
      obtain ⟨k2, e2, _, b2⟩ := DataW.trod_int Tryd.underlying48 f2
      simp only [List.cons.injEq, and_true] at e0 e1 e2
      subst e0 e1 e2
      simp only [Prod.mk.injEq] at hy
      have hD : D i ∈ (List.range len).map D := List.mem_map.2 ⟨i, List.mem_range.2 hil, rfl⟩
      have hsz1 : s1.size ≤ 140737488351232 := by
        have h1 : s1.data.toList.length ≤ reachBytes := by
          refine hw _ ?_
          simp only [DataW.weights, Tryd.underlying68]
          refine List.mem_cons_of_mem _ (List.mem_append.2 (.inl (weights_of_elem hD _ ?_)))
          rw [hy.1, d1]
          simp only [DataW.weights, Tryd.underlying74]
          exact DataW.weights_mem_each (j := 1) rfl rfl _ (by simp [DataW.weights])
        simp only [reachBytes] at h1
        exact (show s1.data.toList.length = s1.size from Array.length_toList) ▸ h1
      have hw3 : ∀ n ∈ y3.1.weights Tryd.prog 27, n ≤ reachBytes := fun n hn => by
        refine hw n ?_
        simp only [DataW.weights, Tryd.underlying68]
        refine List.mem_cons_of_mem _ (List.mem_append.2 (.inl (weights_of_elem hD n ?_)))
        rw [hy.1]
        simp only [DataW.weights, Tryd.underlying74]
        exact DataW.weights_mem_each (j := 3) rfl rfl n hn
      obtain ⟨ax, cx, l, rfl, hr, hll⟩ := open_bytes f3 hw3
      obtain ⟨b, off, sp⟩ := a
      have hsp' : sp = none := hspot (by omega)
      subst hsp'
      have hb2 := bounds_u32 b2
      refine ⟨⟨k0, s1, k2, .slice ax l.length cx, l⟩, b, off, rfl, ?_, hr, ⟨bounds_i64 b0, hsz1, ⟨hb2.1, Int.lt_of_le_of_lt hb2.2 (by decide)⟩, hll⟩⟩
      intro j v hv
      have hj := (List.getElem?_eq_some_iff.1 hv).1
      have := hat j hj
      rw [add_add, add_plain, ← Nat.add_assoc] at this
      rw [this]; exact hv
    obtain ⟨f, hf⟩ := choose_lt per
    refine ⟨some a, cap, (List.range len).map f, by simp, fun i F hF => ?_, by simpa using hbig⟩
    have hil : i < len := by have := (List.getElem?_eq_some_iff.1 hF).1; simpa using this
    have hFe : F = f i := by simpa [hil] using hF.symm
    subst hFe
    obtain ⟨b, off, rfl, h0, h1, h2⟩ := hf i hil
    exact ⟨b, off, rfl, h0, h1, h2⟩
end
end Go.Proofs.YtkceaepbjdfccaaDoor
