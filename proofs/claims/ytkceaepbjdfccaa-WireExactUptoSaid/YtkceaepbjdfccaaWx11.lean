/-
The book's Note.
-/
import Derived.Test.YtkceaepbjdfccaaWx10
import Derived.Deep.CutRange
import Derived.Deep.CutBlock
import Derived.Deep.DeepCutAuto
namespace Go.Proofs.Ytkceaepbjdfccaa
open Go.RowKit
theorem NS.start {w W : World} {t : Nat} {cs : Array Value} {lv wv l d : Value} {vl vw : List Value} {ls ms : List UInt8} (hrow : w.heap[t]? = some (.cells cs 92 (0, 0))) (hol : Own w 0 22 lv vl) (how : Own w 0 22 wv vw) (hne : ∀ b ∈ ob lv, b ∉ ob wv)
    (ho : Own w 0 5 l (bv ls)) (k : Kp (ob l) w W) (ho2 : Own W 0 5 l (bv ms)) (hd : Own W w.heap.size 5 d (bv ms)) : NS w W t cs lv wv l lv wv l d vl vw ms ms [] :=
  ⟨k.heap hrow (fun hm => ho.off hrow (by decide) t hm rfl), k.mono (fun m hm => .inl (by simp [hm])), hol.kp k (fun b hb hm => hol.apart ho (by decide) b (mem_ob.2 hb) hm), how.kp k (fun b hb hm => how.apart ho (by decide) b (mem_ob.2 hb) hm), ho2, hd.base (Nat.zero_le _), fun _ hb => .inl hb, fun _ hb => .inl hb, hne, fun _ hb => .inl hb,
    fun b hb => (hd.lt (mem_ob.1 hb)).1, fun b hb hn => by have := ho.ltW b hb; have := (hd.lt (mem_ob.1 hn)).1; omega, fun _ hx => by cases hx⟩
theorem NS.c8 {w W : World} {t : Nat} {cs : Array Value} {lv wv l lX wX a d : Value} {vl vw : List Value} {ma md : List UInt8} {P : List (Value × List UInt8)} (h : NS w W t cs lv wv l lX wX a d vl vw ma md P) (i : Nat) {u : Value} (hu : cs[i]? = some u) : W.cell? ⟨t, i, none⟩ = some u := by
  rw [cell_of_row W t i _ _ _ h.row]; exact hu
theorem rd_lit1s (w : World) (p : Addr) (u : Value) (e : TypeId) (a : Value) : Rd ((w.setCell p u).alloc (.cells #[a] e)) (.slice (some ⟨w.heap.size, 0, none⟩) 1 1) [a] := by
  have h := rd_lit1 (w.setCell p u) e a
  rwa [show (w.setCell p u).heap.size = w.heap.size by simp] at h
theorem set_mid (acc ls : List UInt8) (k : Nat) (x : UInt8) (hk : acc.length = k) (hlt : k < ls.length) : (bv (acc ++ ls.drop k)).set k (bval x) = bv ((acc ++ [x]) ++ ls.drop (k + 1)) := by
  rw [bv_append, List.set_append_right k _ (by rw [bv_length]; omega), bv_length, hk, Nat.sub_self, List.drop_eq_getElem_cons hlt, bv_append, bv_append, List.append_assoc]
  rfl
set_option maxRecDepth 100000 in
set_option maxHeartbeats 2000000 in
theorem note_any (w : World) (t : Nat) (cs : Array Value) (lv wv l : Value) (vl vw : List Value) (ls : List UInt8) (hrow : w.heap[t]? = some (.cells cs 92 (0, 0))) (hcs : cs.size = 10) (h8 : cs[8]? = some lv) (h9 : cs[9]? = some wv) (hol : Own w 0 22 lv vl) (how : Own w 0 22 wv vw) (hne : ∀ b ∈ ob lv, b ∉ ob wv)
    (ho : Own w 0 5 l (bv ls)) (hvl : vl.length ≤ 1000) (hvw : vw.length ≤ 1000) (hls : ls.length ≤ 3145800) :
    Calls Try.prog 64 #[.pointer (some ⟨t, 8, none⟩), l] w fun e w' => e = .returned (.tuple #[]) ∧ ∃ ms k3 lv' wv' l3 d d3, Noted w w' t lv wv l vl vw ms k3 lv' wv' l3 d d3 0 ∧ ms.length = ls.length ∧ k3.length = 3 ∧
      ∃ cs', w'.heap[t]? = some (.cells cs' 92 (0, 0)) ∧ cs'.size = 10 ∧ (∀ i, i < 8 → cs'[i]? = cs[i]?) ∧ cs'[8]? = some lv' ∧ cs'[9]? = some wv' := by
  obtain ⟨la, lc, rfl⟩ := hol.rd.form
  obtain ⟨wa, wq, rfl⟩ := how.rd.form
  obtain ⟨ga, gc, rfl⟩ := ho.rd.form
  rw [bv_length] at ho ⊢
  have c8 : w.cell? ⟨t, 8, none⟩ = some (.slice la vl.length lc) := by rw [cell_of_row w t 8 _ _ _ hrow]; exact h8
  have HW := Lib.hid (And.intro hrow (And.intro hol (And.intro how (And.intro hne ho))))
  clear hrow hol how hne ho
  obtain ⟨M, hM⟩ : ∃ M : Int, (vl.length : Int) * 29 + 7 = M := ⟨_, rfl⟩
  have hM0 : 0 ≤ M := by omega
  have hM1 : M ≤ 30000 := by omega
  have HM := Lib.hid hM
  go_enter Try.func64, Try.ntmps64
  go_wp2_with fail
  clear hM c8
  go_loopw [5, 6] (fun want i wr => ∃ (k : Nat), k ≤ ls.length ∧ i = .int .i64 k ∧ Hid (∃ acc : List UInt8, acc.length = k ∧ Own wr 0 5 (.slice ga ls.length gc) (bv (acc ++ ls.drop k)) ∧ Own wr w.heap.size 5 want (bv acc) ∧ Kp (ob (.slice ga ls.length gc)) w wr)) (fun _ i _ => ls.length - (intOf i).toNat)
  case atStart => exact ⟨0, Nat.zero_le _, rfl, Lib.hid ⟨[], rfl, HW.out.2.2.2.2, Own.nil _ _ _, Kp.refl _ _⟩⟩
  case round =>
    obtain ⟨k, hk, rfl, HR⟩ := hrel
    obtain ⟨acc, hlen, hA, hD, hK⟩ := HR.out
    clear HR
    obtain ⟨va, vc, rfl⟩ := hD.rd.form
    have HL := Lib.hid hlen
    have HA := Lib.hid (And.intro hA (And.intro hD hK))
    rw [bv_length, hlen] at HA ⊢
    clear hlen hA hD hK
    by_cases hlt : k < ls.length
    · have hl2 : (bv (acc ++ ls.drop k)).length = ls.length := by rw [bv_length, List.length_append, HL.out, List.length_drop]; omega
      obtain ⟨g, rfl, hc, hfz, _, hg2, hset⟩ := HA.out.1.slotV (k := k) (by omega)
      have HSET := Lib.hid hset
      have hi0 : (0 : Int) ≤ M + k := by omega
      have hw0 : IntKind.i64.wrap (M + (k : Int)) = M + k := IntWalk.i64_in _ (by omega)
      obtain ⟨u0, hc0⟩ : ∃ u, wr.cell? ⟨g, k, none⟩ = some u := ⟨_, hc⟩
      clear hset hc
      clear hl2
      have hgw : g < w.heap.size := HW.out.2.2.2.2.ltW g (by simp [ob, Value.ownBlock])
      have hbs : (wr.setCell ⟨g, k, none⟩ (.int .u8 ((M + k) % 256))).cell? ⟨g, k, none⟩ = some (.int .u8 ((M + k) % 256)) := by
        obtain ⟨cur, hcur⟩ := HA.out.1.block (b := g) rfl
        have hlt2 : k < cur.size := by
          rw [cell_of_row wr g k _ _ _ hcur] at hc0
          exact (Array.getElem?_eq_some_iff.1 hc0).1
        rw [cell_of_row _ g k _ _ _ (heap_setCell_same wr g k _ _ _ hcur)]
        simp [hlt2]
      have HG := Lib.hid hgw
      have hk1 : Kp [g] wr ((wr.setCell ⟨g, k, none⟩ (.int .u8 ((M + k) % 256))).alloc (.cells #[.int .u8 ((M + k) % 256)] 5)) := ((Kp.refl [g] wr).setCell (p := ⟨g, k, none⟩) (.inl (by simp)) _).alloc _
      have HK1 := Lib.hid hk1
      have HRD : Hid (Rd ((wr.setCell ⟨g, k, none⟩ (.int .u8 ((M + k) % 256))).alloc (.cells #[.int .u8 ((M + k) % 256)] 5)) (.slice (some ⟨wr.heap.size, 0, none⟩) 1 1) [.int .u8 ((M + k) % 256)]) := Lib.hid (by
        have h := rd_lit1 (wr.setCell ⟨g, k, none⟩ (.int .u8 ((M + k) % 256))) 5 (.int .u8 ((M + k) % 256))
        rw [show (wr.setCell ⟨g, k, none⟩ (.int .u8 ((M + k) % 256))).heap.size = wr.heap.size by simp] at h
        exact h)
      clear hgw hk1
      go_wp2_with (first
        | (at_builtin; go_must (refine wpl_append2 el_u8 rfl (.tmp 28) (.tmp 33) rfl (B := w.heap.size) rfl rfl (HA.out.2.1.kp HK1.out (fun b hb hm => by rw [List.mem_singleton] at hm; have := HA.out.2.1.lt hb; have := HG.out; omega)) HRD.out (by simp [Value.oneCell']) (by simp [bv_length]; have := HL.out; omega) (by simp [bv_length]; have := HL.out; omega) (by have := HA.out.2.2.size; simp; omega) ?_); intro v2 w2 ho2 hg2 hb2; have HO2 := Lib.hid ho2; have HG2 := Lib.hid (show Kp (ob (.slice va k vc)) _ w2 from grown_ob hg2); clear ho2 hg2 hb2)
        | fail)
      go_roundw
      case rel =>
        refine ⟨k + 1, by omega, by go_num, Lib.hid ⟨acc ++ [lo8 (M + k)], by simp [HL.out], ?_, ?_, ?_⟩⟩
        · have h := HSET.out (.int .u8 ((M + k) % 256))
          have e := set_mid acc ls k (lo8 (M + k)) HL.out hlt
          rw [bval_lo8] at e
          rw [e] at h
          refine ((h.kp0 ((Kp.refl [] _).alloc _))).kp HG2.out (fun b hb hm => ?_)
          have h1 : b = g := by have h2 : some g = some b := hb; injection h2 with h2; exact h2.symm
          have h3 := (HA.out.2.1.lt (mem_ob.1 hm)).1
          have := HG.out
          omega
        · have h := HO2.out
          rw [← bval_lo8] at h
          rw [bv_append]
          exact h
        · refine (HA.out.2.2.trans (M := [g]) (HK1.out) (fun m hm => ?_)).trans HG2.out (fun m hm => ?_)
          · rw [List.mem_singleton] at hm; subst hm; exact .inl (by simp [ob, Value.ownBlock])
          · exact .inr (HA.out.2.1.lt (mem_ob.1 hm)).1
      case measure => simp [intOf]; omega
    · obtain rfl : k = ls.length := by omega
      rw [List.drop_length, List.append_nil] at HA
      have HN := Lib.hid (NS.start HW.out.1 HW.out.2.1 HW.out.2.2.1 HW.out.2.2.2.1 HW.out.2.2.2.2 HA.out.2.2 HA.out.1 HA.out.2.1)
      have c8 := HN.out.c8 8 h8
      clear HA
      go_upto_region 10 with (first
        | (at_builtin; (refine wpl_append2 el_bs rfl (.tmp 39) (.tmp 41) rfl (B := 0) rfl rfl (HN.out.ol.kp0 ((Kp.refl [] wr).alloc _)) (rd_lit1 wr 22 (.slice ga ls.length gc)) (by simp [Value.oneCell']) (by simp; omega) (by simp; omega) (Nat.zero_le _) ?_); intro l1 w2 ho2 hg2 hb2; obtain ⟨l1a, l1c, rfl⟩ := ho2.rd.form; generalize hn1 : (vl ++ [Value.slice ga ls.length gc]).length = n1 at ho2 hb2 ⊢; have hst := HN.out.lst ((Kp.refl [] wr).alloc _) ho2 hg2 hb2; have f8 := hst.1.2; have cc8 := hst.1.1.trans c8; have c9 := hst.2.c8 9 (u := .slice wa vw.length wq) (by simp [h9]); have HN2 := Lib.hid hst.2; have HB1 := Lib.hid hn1; clear ho2 hg2 hb2 hst hn1)
        | (at_builtin; go_must (refine wpl_append2 el_bs rfl (.tmp 49) (.tmp 51) rfl (B := 0) rfl rfl (HN2.out.ow.kp0 ((Kp.refl [] _).alloc _)) (rd_lit1s w2 ⟨t, 8, none⟩ (.slice l1a n1 l1c) 22 (.slice va ls.length vc)) (by simp [Value.oneCell']) (by simp; omega) (by simp; omega) (Nat.zero_le _) ?_); intro w1 w4 ho2 hg2 hb2; obtain ⟨w1a, w1c, rfl⟩ := ho2.rd.form; generalize hn2 : (vw ++ [Value.slice va ls.length vc]).length = n2 at ho2 hb2 ⊢; have hst := HN2.out.wnt ((Kp.refl [] _).alloc _) ho2 hg2 hb2; have f9 := hst.1.2; have cc9 := hst.1.1.trans c9; have HN4 := Lib.hid hst.2; have HB2 := Lib.hid hn2; clear ho2 hg2 hb2 hst hn2)
        | fail)
      clear c8 cc8 f8 c9 f9 cc9 HN2
      generalize w4.setCell ⟨t, 9, none⟩ (.slice w1a n2 w1c) = W at *
      have c8 := HN4.out.c8 8 (u := .slice l1a n1 l1c) (by simp [hcs])
      have c8b : (W.alloc (.cells #[.int .u8 ((M * 3 + 1) % 256), .int .u8 ((M * 3 + 1) % 256), .int .u8 ((M * 3 + 1) % 256)] 5)).cell? ⟨t, 8, none⟩ = some (.slice l1a n1 l1c) := ((Kp.refl [] W).alloc _).cell_some c8 (by simp)
      clear h8 h9
      go_cut [] (fun wx => Hid (∃ l2 l3 : Value, NS w wx t (((cs.setIfInBounds 8 (.slice l1a n1 l1c)).setIfInBounds 9 (.slice w1a n2 w1c)).setIfInBounds 8 l2) (.slice la vl.length lc) (.slice wa vw.length wq) (.slice ga ls.length gc) l2 (.slice w1a n2 w1c) l3 (.slice va ls.length vc) (vl ++ [.slice ga ls.length gc] ++ [l3]) (vw ++ [.slice va ls.length vc]) (acc ++ [lo8 (M * 3 + 1), lo8 (M * 3 + 1), lo8 (M * 3 + 1)]) acc [(.slice ga ls.length gc, acc)]))
      case first =>
        go_region_law (first
          | (refine step_appendO el_u8 rfl (.tmp 64) (.tmp 68) rfl (B := 0) rfl rfl (HN4.out.oa.kp0 (by (repeat (first | exact Kp.refl _ _ | assumption | refine Kp.drewN ?_ _ | refine Kp.drew ?_ | refine Kp.alloc ?_ _ | refine Kp.trans0 ?_ (by assumption))))) (rd_lit3 _ _ _ _ _) (by simp [Value.oneCell']) (by simp [bv_length]; have := HL.out; omega) (by simp [bv_length]; have := HL.out; omega) (Nat.zero_le _) ?_; intro l3 w5 ho5 hg5 hb5 hr5; have e5 : bv acc ++ [Value.int .u8 ((M * 3 + 1) % 256), Value.int .u8 ((M * 3 + 1) % 256), Value.int .u8 ((M * 3 + 1) % 256)] = bv (acc ++ [lo8 (M * 3 + 1), lo8 (M * 3 + 1), lo8 (M * 3 + 1)]) := (by rw [bv_append]; simp only [bv, List.map_cons, List.map_nil, bval_lo8]); rw [e5] at ho5; have hit := HN4.out.itA (by (repeat (first | exact Kp.refl _ _ | assumption | refine Kp.drewN ?_ _ | refine Kp.drew ?_ | refine Kp.alloc ?_ _ | refine Kp.trans0 ?_ (by assumption)))) ho5 hg5 hb5 hr5 (by simp); have c8 := hit.c8 8 (u := .slice l1a n1 l1c) (by simp [hcs]); obtain ⟨l3a, l3c, rfl⟩ := ho5.rd.form; generalize hn3 : (bv (acc ++ [lo8 (M * 3 + 1), lo8 (M * 3 + 1), lo8 (M * 3 + 1)])).length = n3 at ho5 hb5 hit ⊢; have c8c : (w5.alloc (.cells #[.slice l3a n3 l3c] 22)).cell? ⟨t, 8, none⟩ = some (.slice l1a n1 l1c) := ((Kp.refl [] w5).alloc _).cell_some c8 (by simp); have HN5 := Lib.hid hit; clear ho5 hg5 hb5 hr5 e5 hit hn3)
          | (refine step_append2 el_bs rfl (.tmp 63) (.tmp 70) rfl (B := 0) rfl rfl (HN5.out.ol.kp0 (by (repeat (first | exact Kp.refl _ _ | assumption | refine Kp.drewN ?_ _ | refine Kp.drew ?_ | refine Kp.alloc ?_ _ | refine Kp.trans0 ?_ (by assumption))))) (rd_lit1 _ _ _) (by simp [Value.oneCell']) (by simp; omega) (by simp; omega) (Nat.zero_le _) ?_; intro l2 w6 ho6 hg6 hb6; obtain ⟨l2a, l2c, rfl⟩ := ho6.rd.form; generalize hn4 : (vl ++ [Value.slice ga ls.length gc] ++ [Value.slice l3a n3 l3c]).length = n4 at ho6 hb6 ⊢; have hst := HN5.out.lst (by (repeat (first | exact Kp.refl _ _ | assumption | refine Kp.drewN ?_ _ | refine Kp.drew ?_ | refine Kp.alloc ?_ _ | refine Kp.trans0 ?_ (by assumption)))) ho6 hg6 hb6; have f8 := hst.1.2; have cc8 := hst.1.1.trans c8; have HN6 := Lib.hid hst.2; clear ho6 hg6 hb6 hst hn4))
        all_goals
          go_wp2_with fail
          go_meet
          case rel => exact Lib.hid ⟨_, _, HN6.out⟩
      case rest =>
        obtain ⟨l2, l3, h6⟩ := hcut.out
        have HN6 := Lib.hid h6
        clear hcut h6
        have c9 := HN6.out.c8 9 (u := .slice w1a n2 w1c) (by simp [hcs])
        have c9b : (wc.alloc (.cells #[.int .u8 ((M * 3 + 1) % 256), .int .u8 ((M * 3 + 1) % 256), .int .u8 ((M * 3 + 1) % 256)] 5)).cell? ⟨t, 9, none⟩ = some (.slice w1a n2 w1c) := ((Kp.refl [] wc).alloc _).cell_some c9 (by simp)
        have e5 : bv acc ++ [Value.int .u8 ((M * 3 + 1) % 256), Value.int .u8 ((M * 3 + 1) % 256), Value.int .u8 ((M * 3 + 1) % 256)] = bv (acc ++ [lo8 (M * 3 + 1), lo8 (M * 3 + 1), lo8 (M * 3 + 1)]) := by rw [bv_append]; simp only [bv, List.map_cons, List.map_nil, bval_lo8]
        have E5 := Lib.hid e5
        clear e5
        go_wp2_with fail
        go_region_law (first
          | (refine step_appendO el_u8 rfl (.tmp 79) (.tmp 83) rfl (B := 0) rfl rfl (HN6.out.od.kp0 (by (repeat (first | exact Kp.refl _ _ | assumption | refine Kp.drewN ?_ _ | refine Kp.drew ?_ | refine Kp.alloc ?_ _ | refine Kp.trans0 ?_ (by assumption))))) (rd_lit3 _ _ _ _ _) (by simp [Value.oneCell']) (by simp [bv_length]; have := HL.out; omega) (by simp [bv_length]; have := HL.out; omega) (Nat.zero_le _) ?_; intro d3 w5 ho5 hg5 hb5 hr5; rw [E5.out] at ho5; have hit := HN6.out.itD (by (repeat (first | exact Kp.refl _ _ | assumption | refine Kp.drewN ?_ _ | refine Kp.drew ?_ | refine Kp.alloc ?_ _ | refine Kp.trans0 ?_ (by assumption)))) ho5 hg5 hb5 hr5 (fun x hx b hb hd => by rw [List.mem_singleton] at hx; subst hx; have := HN.out.bad b hb; exact this hd); have c9 := hit.c8 9 (u := .slice w1a n2 w1c) (by simp [hcs]); obtain ⟨d3a, d3c, rfl⟩ := ho5.rd.form; generalize hn3 : (bv (acc ++ [lo8 (M * 3 + 1), lo8 (M * 3 + 1), lo8 (M * 3 + 1)])).length = n3 at ho5 hb5 hit ⊢; have c9c : (w5.alloc (.cells #[.slice d3a n3 d3c] 22)).cell? ⟨t, 9, none⟩ = some (.slice w1a n2 w1c) := ((Kp.refl [] w5).alloc _).cell_some c9 (by simp); have HN7 := Lib.hid hit; clear ho5 hg5 hb5 hr5 hit hn3)
          | (refine step_append2 el_bs rfl (.tmp 78) (.tmp 85) rfl (B := 0) rfl rfl (HN7.out.ow.kp0 (by (repeat (first | exact Kp.refl _ _ | assumption | refine Kp.drewN ?_ _ | refine Kp.drew ?_ | refine Kp.alloc ?_ _ | refine Kp.trans0 ?_ (by assumption))))) (rd_lit1 _ _ _) (by simp [Value.oneCell']) (by simp; omega) (by simp; omega) (Nat.zero_le _) ?_; intro l2 w6 ho6 hg6 hb6; obtain ⟨w2a, w2c, rfl⟩ := ho6.rd.form; generalize hn4 : (vw ++ [Value.slice va ls.length vc] ++ [Value.slice d3a n3 d3c]).length = n4 at ho6 hb6 ⊢; have hst := HN7.out.wnt (by (repeat (first | exact Kp.refl _ _ | assumption | refine Kp.drewN ?_ _ | refine Kp.drew ?_ | refine Kp.alloc ?_ _ | refine Kp.trans0 ?_ (by assumption)))) ho6 hg6 hb6; have f9 := hst.1.2; have cc9 := hst.1.1.trans c9; have HN8 := Lib.hid hst.2; clear ho6 hg6 hb6 hst hn4))
        all_goals
          go_wp2_with fail
          go_end0
          have h := HN8.out
          have hpl := h.pr (.slice ga ls.length gc, acc) (by simp)
          have hpd := h.pr (.slice va ls.length vc, acc) (by simp)
          refine ⟨rfl, acc, [lo8 (M * 3 + 1), lo8 (M * 3 + 1), lo8 (M * 3 + 1)], _, _, _, _, _, ⟨h.kp, h.ol, h.ow, hpl.1, hpd.1, h.oa.rd, h.od.rd, fun b hb => (h.bl b hb).imp id (fun h1 => ⟨h1, h.ol.ltW b hb⟩), fun b hb => (h.bw b hb).imp id (fun h1 => ⟨h1, h.ow.ltW b hb⟩), h.bn, fun b hb => ?_, fun b hb => ?_⟩, HL.out, rfl, _, h.row, by simp [hcs], fun i hi => ?_, by simp [hcs], by simp [hcs]⟩
          · rcases List.mem_append.1 hb with hb | hb
            · exact (h.ba b hb).imp id (fun h1 => ⟨h1, h.oa.ltW b hb⟩)
            rcases List.mem_append.1 hb with hb | hb
            · exact .inr ⟨HN.out.bd b hb, (hpd.2 b hb).2.2.2⟩
            · exact .inr ⟨h.bd b hb, h.od.ltW b hb⟩
          · rcases List.mem_append.1 hb with hb | hb
            · exact ⟨(hpl.2 b hb).2.1, (hpl.2 b hb).2.2.1⟩
            rcases List.mem_append.1 hb with hb | hb
            · exact ⟨h.oa.apart h.ol (by decide) b hb, h.oa.apart h.ow (by decide) b hb⟩
            rcases List.mem_append.1 hb with hb | hb
            · exact ⟨(hpd.2 b hb).2.1, (hpd.2 b hb).2.2.1⟩
            · exact ⟨h.od.apart h.ol (by decide) b hb, h.od.apart h.ow (by decide) b hb⟩
          · simp only [Array.getElem?_setIfInBounds]
            rw [if_neg (by omega), if_neg (by omega), if_neg (by omega), if_neg (by omega)]
end Go.Proofs.Ytkceaepbjdfccaa
