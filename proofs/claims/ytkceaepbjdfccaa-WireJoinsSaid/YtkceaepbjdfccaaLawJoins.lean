/-
WireJoins answers true at every input.
-/
import Derived.Test.YtkceaepbjdfccaaWire5
import Derived.Test.YtkceaepbjdfccaaSub
import Derived.Deep.RegionWith
import Derived.Deep.DeepCutAuto
import Derived.Deep.CutRange
namespace Go.Proofs.Ytkceaepbjdfccaa
open Go.RowKit
theorem join_to (v : Value) (ls : List (List UInt8)) (l : List UInt8) (w : World) (hv : Rdd w v ls) (hf : ls.flatten = l) (hn : l.length ≤ 140737488355328) (hm : ls.length ≤ 140737488355328) :
    Calls Try.prog 14 #[v] w fun e w' => ∃ g, e = .returned (.slice (some ⟨g, 0, none⟩) l.length l.length) ∧
      Own w' w.heap.size 5 (.slice (some ⟨g, 0, none⟩) l.length l.length) (bv l) ∧ w.heap.size ≤ g ∧ g < w'.heap.size ∧ Kp [] w w' := by
  subst hf
  refine (join_any v ls w hv hn hm).mono ?_
  rintro e w' ⟨rfl, ho, k⟩
  exact ⟨_, rfl, ho, Nat.le_refl _, (ho.lt rfl).2, k⟩
theorem rest_nat (n m : Int) (h0 : 0 < m) (h1 : m ≤ 4611686018427387904) (w : World) :
    Calls Try.prog 13 #[.int .i64 n, .int .i64 m] w fun e w' => ∃ r : Nat, e = .returned (.int .i64 (r : Int)) ∧ (r : Int) < m ∧ w = w' := by
  refine (rest_any n m h0 h1 w).mono ?_
  rintro e w' ⟨rfl, rfl⟩
  have p := Int.emod_nonneg n (by omega : m ≠ 0)
  have q := Int.emod_lt_of_pos n h0
  exact ⟨(n % m).toNat, by rw [Int.toNat_of_nonneg p], by omega, rfl⟩
set_option maxRecDepth 100000 in
set_option maxHeartbeats 400000 in
theorem joins_walk (v : Value) (l : List UInt8) (x y : Int) (w : World) (hl : l.length ≤ 140737488351232) (hv : Rd w v (bv l)) :
    Calls Try.prog 4 #[v, .int .i64 x, .int .i64 y] w fun e w' => e = .returned (.bool true) ∧ Kp [] w w' := by
  obtain ⟨ao0, cap0, rfl⟩ := hv.form
  have hcap : l.length ≤ cap0 := by
    obtain ⟨a', c', h1, h2, _⟩ := id hv
    simp only [Value.slice.injEq] at h1
    rw [bv_length] at h2; omega
  rw [bv_length] at hv ⊢
  go_enter Try.func4, Try.ntmps4
  go_wp2_with fail
  refine (rest_nat x _ (by omega) (by omega) w).mono ?_
  rintro e w' ⟨i, rfl, hi, rfl⟩
  go_wp2_with fail
  refine (rest_nat y _ (by omega) (by omega) w).mono ?_
  rintro e w' ⟨j, rfl, hj, rfl⟩
  go_wp2_with fail
  obtain ⟨a1, n1, c1, s1, r1⟩ := run_subb_h el_u8 hv (i : Int) (by omega) (by omega)
  obtain ⟨a2, n2, c2, s2, r2⟩ := run_subb_lh el_u8 hv (i : Int) ((i : Int) + (j : Int)) (by omega) (by omega) (by omega)
  obtain ⟨a3, n3, c3, s3, r3⟩ := run_subb_l el_u8 hv ((i : Int) + (j : Int)) (by omega) (by omega)
  have hfl : [l.take i, (l.take (i + j)).drop i, [], l.drop (i + j)].flatten = l := by
    have e : l.take i = (l.take (i + j)).take i := by rw [List.take_take, Nat.min_eq_left (by omega)]
    simp only [List.flatten_cons, List.flatten_nil, List.append_nil, List.nil_append]
    rw [e, ← List.append_assoc, List.take_append_drop, List.take_append_drop]
  have HFL := Lib.hid hfl
  clear hfl
  have hij : ((i : Int) + (j : Int)).toNat = i + j := by omega
  rw [hij] at r2 r3
  rw [Int.toNat_natCast] at r1 r2
  have R1 := Lib.hid r1
  have R2 := Lib.hid r2
  have R3 := Lib.hid r3
  clear r1 r2 r3 hij
  go_region_with (go_at_call 14; go_must (refine (join_to _ [l.take i, (l.take (i + j)).drop i, [], l.drop (i + j)] l _ (Rdd.drew (rdd_lit4 w _ _ _ _ _ _ _ _ _ R1.out R2.out (Rd.nil w) R3.out)) HFL.out (by omega) (by simp)).mono ?_); rintro e w1 ⟨g1, rfl, ho1, hg1, hg1', k1⟩)
  have O1 : Hid (Own w1 w.heap.size 5 (.slice (some ⟨g1, 0, none⟩) l.length l.length) (bv l)) := Lib.hid (ho1.base (by simp))
  have K1 : Hid (Kp [] w w1) := Lib.hid (Kp.trans0 (((Kp.refl [] w).alloc _).drew) k1)
  have HG : Hid (w.heap.size ≤ g1 ∧ g1 < w1.heap.size) := Lib.hid ⟨by simp at hg1; omega, hg1'⟩
  have hd : decide (l = l) = true := by simp
  clear ho1 k1 hg1 hg1' s1 s2 s3 R1 R2 R3 HFL
  obtain ⟨a4, n4, c4, s4, r4⟩ := run_subb_h el_u8 hv ((i : Int) + (j : Int)) (by omega) (by omega)
  obtain ⟨a5, n5, c5, s5, r5⟩ := run_subb_l el_u8 hv ((i : Int) + (j : Int)) (by omega) (by omega)
  have R4 := Lib.hid r4
  have R5 := Lib.hid r5
  have HV := Lib.hid hv
  clear r4 r5 hv
  go_wp2_with fail
  go_cut [61] (fun c w' => c = .bool false ∧ Kp [] w1 w')
  case first =>
    have tokS : True := trivial
    have tokJ : True := trivial
    go_region_held3 (fun _ => True) (trivial) (first
      | (go_at_call 12; go_must (refine (eq_any _ _ l l _ (O1.out.rd.kp0 (by (repeat (first | exact Kp.refl _ _ | assumption | refine Kp.drewN ?_ _ | refine Kp.drew ?_ | refine Kp.alloc ?_ _ | refine Kp.trans0 ?_ (by assumption))))) (HV.out.kp0 (K1.out.trans0 (by (repeat (first | exact Kp.refl _ _ | assumption | refine Kp.drewN ?_ _ | refine Kp.drew ?_ | refine Kp.alloc ?_ _ | refine Kp.trans0 ?_ (by assumption))))))).mono ?_); rintro e w' ⟨rfl, rfl⟩)
      | (go_at_call 15; have _t := tokS; clear _t tokS; refine (same_any _ _ l l _ (O1.out.rd.kp0 (by (repeat (first | exact Kp.refl _ _ | assumption | refine Kp.drewN ?_ _ | refine Kp.drew ?_ | refine Kp.alloc ?_ _ | refine Kp.trans0 ?_ (by assumption))))) (HV.out.kp0 (K1.out.trans0 (by (repeat (first | exact Kp.refl _ _ | assumption | refine Kp.drewN ?_ _ | refine Kp.drew ?_ | refine Kp.alloc ?_ _ | refine Kp.trans0 ?_ (by assumption)))))) (by omega)).mono ?_; rintro e w' ⟨rfl, nn, rfl⟩)
      | (go_at_call 14; have _t := tokJ; clear _t tokJ; refine (join_to _ [l] l _ (rdd_at1 (x := .slice (some ⟨g1, 0, none⟩) l.length l.length) (T := 22) (by (repeat (first | (with_reducible refine hp_drew ?_) | (with_reducible refine hp_drewN ?_) | ((with_reducible refine hp_new ?_); (simp; done)) | ((with_reducible refine hp_old ?_ ?_); focus (first | (simp; done) | (simp; omega))) | refine Kp.heap (by assumption) ?_ (by simp) | assumption))) (O1.out.rd.kp0 (by (repeat (first | exact Kp.refl _ _ | assumption | refine Kp.drewN ?_ _ | refine Kp.drew ?_ | refine Kp.alloc ?_ _ | refine Kp.trans0 ?_ (by assumption)))))) (by simp) (by omega) (by simp)).mono ?_; rintro e wa ⟨ga, rfl, hoa, hga, hga', ka⟩; have HA := Lib.hid hoa; clear hoa)
      | (go_at_call 14; refine (join_to _ [l.take (i + j), l.drop (i + j)] l _ (rdd_at2 (x := .slice a4 n4 c4) (y := .slice a5 n5 c5) (T := 22) (by (repeat (first | (with_reducible refine hp_drew ?_) | (with_reducible refine hp_drewN ?_) | ((with_reducible refine hp_new ?_); (simp; done)) | ((with_reducible refine hp_old ?_ ?_); focus (first | (simp; done) | (simp; omega))) | refine Kp.heap (by assumption) ?_ (by simp) | assumption))) (R4.out.kp0 (K1.out.trans0 (by (repeat (first | exact Kp.refl _ _ | assumption | refine Kp.drewN ?_ _ | refine Kp.drew ?_ | refine Kp.alloc ?_ _ | refine Kp.trans0 ?_ (by assumption)))))) (R5.out.kp0 (K1.out.trans0 (by (repeat (first | exact Kp.refl _ _ | assumption | refine Kp.drewN ?_ _ | refine Kp.drew ?_ | refine Kp.alloc ?_ _ | refine Kp.trans0 ?_ (by assumption))))))) (by simp) (by omega) (by simp)).mono ?_; rintro e wb ⟨gb, rfl, hob, hgb, hgb', kb⟩; have HB := Lib.hid hob; clear hob)
      | (go_at_call 15; refine (same_any _ _ l l _ (HA.out.rd.kp0 (by (repeat (first | exact Kp.refl _ _ | assumption | refine Kp.drewN ?_ _ | refine Kp.drew ?_ | refine Kp.alloc ?_ _ | refine Kp.trans0 ?_ (by assumption))))) (HB.out.rd.kp0 (by (repeat (first | exact Kp.refl _ _ | assumption | refine Kp.drewN ?_ _ | refine Kp.drew ?_ | refine Kp.alloc ?_ _ | refine Kp.trans0 ?_ (by assumption))))) (by omega)).mono ?_; rintro e w' ⟨rfl, nn, rfl⟩))
    all_goals
      go_wp2_with fail
      go_meet
      exact ⟨rfl, by (repeat (first | exact Kp.refl _ _ | assumption | refine Kp.drewN ?_ _ | refine Kp.drew ?_ | refine Kp.alloc ?_ _ | refine Kp.trans0 ?_ (by assumption)))⟩
  case rest =>
    obtain ⟨rfl, kc⟩ := hcut
    have O2 : Hid (Own wc w.heap.size 5 (.slice (some ⟨g1, 0, none⟩) l.length l.length) (bv l)) := Lib.hid (O1.out.kp0 kc)
    have K2 : Hid (Kp [] w wc) := Lib.hid (K1.out.trans0 kc)
    clear kc s4 s5 R4 R5 O1 K1
    have tok1 : True := trivial
    have HV2 := Lib.hid (HV.out.kp0 K2.out)
    go_wp2_with (first
      | (at_builtin; have _t := tok1; clear _t tok1; refine wpl_append el_u8 rfl _ _ rfl rfl rfl (Own.nil _ wc.heap.size _) HV2.out (by simp [bv, bval, Value.oneCell']) (by simp [bv]; omega) (by simp [bv]; omega) (Nat.le_refl _) ?_; intro v1 wd hod hgd; have HD := Lib.hid hod; have KD := Lib.hid (Kp.of_grown (L := []) hgd (fun k hk => by cases hk)); clear hod hgd)
      | (at_builtin; refine wpl_append el_u8 rfl _ _ rfl rfl rfl ((HD.out).kp0 ((Kp.refl [] wd).alloc _)) (rd_lit1 _ _ _) (by simp [Value.oneCell']) (by simp [bv]; omega) (by simp [bv]; omega) (by simp; have := KD.out.size; omega) ?_; intro v2 we hoe hge; have HE := Lib.hid hoe; have KE : Hid (Kp [] wc we) := Lib.hid (Kp.grown (KD.out.alloc _) hge (fun k hk => .inr (HD.out.lt hk).1)); clear hoe hge)
      | fail)
    have hl0 : [] ++ bv l ++ [Value.int .u8 0] = bv (l ++ [0]) := by simp [bv, bval]
    have RE : Rd we v2 (bv (l ++ [0])) := by have h := HE.out; rw [hl0] at h; exact h.rd
    have hdn : decide (l = l ++ [0]) = false := by simp
    refine (same_any _ _ l (l ++ [0]) _ (O2.out.kp0 KE.out).rd RE (by omega)).mono ?_
    rintro e w' ⟨rfl, m1, rfl⟩
    clear HE hl0 RE hdn
    have O3 := Lib.hid ((O2.out.kp0 KE.out).kp0 ((Kp.refl [] we).drewN m1))
    have K3 := Lib.hid ((K2.out.trans0 KE.out).drewN m1)
    clear O2 K2 KE KD HD HV2
    generalize we.drewN m1 = wf at *
    go_wp2_with fail
    refine (blank_any _ l wf O3.out.rd (by omega)).mono ?_
    rintro e w' ⟨rfl, rfl⟩
    go_wp2_with fail
    refine (wipe_own g1 w.heap.size _ l wf O3.out (by omega)).mono ?_
    rintro e wg ⟨rfl, hog, kg⟩
    have O4 := Lib.hid hog
    have K4 : Hid (Kp [] w wg) := Lib.hid (K3.out.trans kg (fun m hm => by rw [List.mem_singleton] at hm; subst hm; exact .inr HG.out.1))
    clear hog kg
    have hbr := blank_replicate l.length
    go_wp2_with fail
    refine (blank_any _ (List.replicate l.length 0) wg O4.out.rd (by simp; omega)).mono ?_
    rintro e w' ⟨rfl, rfl⟩
    go_wp2_with fail
    refine (same_any _ _ (List.replicate l.length 0) l wg O4.out.rd (HV.out.kp0 K4.out) (by simp; omega)).mono ?_
    rintro e w' ⟨rfl, m2, rfl⟩
    rw [blank_iff]
    clear hbr
    by_cases hz : l.length = 0
    · have HB : Hid (blankL l = true) := Lib.hid (by rw [List.eq_nil_of_length_eq_zero hz]; rfl)
      have hzb : ((l.length : Int) == 0) = true := by rw [hz]; rfl
      clear hz
      go_wp2_with fail
      go_ret
      exact ⟨by rw [← HB.out]; rfl, K4.out.drewN m2⟩
    · have hzb : ((l.length : Int) == 0) = false := by rw [beq_eq_false_iff_ne]; omega
      have hpos : 0 < l.length := by omega
      clear hz
      go_wp2_with fail
      have O5 := Lib.hid (O4.out.kp0 ((Kp.refl [] wg).drewN m2))
      have K5 := Lib.hid (K4.out.drewN m2)
      clear O4 K4 O3 K3
      generalize wg.drewN m2 = wh at *
      refine (rest_nat x _ (by omega) (by omega) _).mono ?_
      rintro e w' ⟨k, rfl, hk, rfl⟩
      have hk' : k < l.length := by omega
      have hlen : (bv (List.replicate l.length 0)).length = l.length := by simp [bv]
      have O6 : Hid (wh.ownsRow w.heap.size 5 1 (.slice (some ⟨g1, 0, none⟩) l.length l.length) l.length (bv (List.replicate l.length 0))) := Lib.hid (by have h := O5.out; unfold Own at h; rwa [hlen] at h)
      have hcell : wh.cell? ⟨g1, k, none⟩ = some (.int .u8 0) := by
        rw [O6.out.cellAt k (by omega)]; simp [bv, bval, hk']
      have hfz : wh.frozen? ⟨g1, k, none⟩ = false := O6.out.frozenAt k
      have hst := O6.out.stored k (.int .u8 1)
      have O7 : Hid (Own (wh.setCell ⟨g1, k, none⟩ (.int .u8 1)) w.heap.size 5 (.slice (some ⟨g1, 0, none⟩) l.length l.length) (bv ((List.replicate l.length 0).set k 1))) := Lib.hid (by
        have h := hst.1
        have e : (bv (List.replicate l.length 0)).set k (.int .u8 1) = bv ((List.replicate l.length 0).set k 1) := by unfold bv; rw [List.map_set]; rfl
        rw [e] at h
        unfold Own
        rw [show (bv ((List.replicate l.length 0).set k 1)).length = l.length by simp [bv]]
        exact h)
      have K7 : Hid (Kp [] w (wh.setCell ⟨g1, k, none⟩ (.int .u8 1))) := Lib.hid (K5.out.setCell (.inr HG.out.1) _)
      have hbs := blank_set l.length k hk'
      clear hst hlen O5 O6 hzb
      go_wp2_with fail
      refine (blank_any _ ((List.replicate l.length 0).set k 1) _ O7.out.rd (by simp; omega)).mono ?_
      rintro e w' ⟨rfl, rfl⟩
      go_wp2_with fail
      go_ret
      exact ⟨rfl, K7.out⟩
end Go.Proofs.Ytkceaepbjdfccaa
