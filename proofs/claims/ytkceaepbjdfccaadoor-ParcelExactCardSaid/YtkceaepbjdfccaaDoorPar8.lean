/-
(*parcel.parcel).text; slices.Clip.
-/
import Derived.Test.YtkceaepbjdfccaaDoorPar7
namespace Go.Proofs.YtkceaepbjdfccaaDoor
open Go.RowKit
/-- a slice of bytes cut to its length -/
def Cut (w : World) (B : Nat) (v : Value) (l : List UInt8) : Prop :=
  (v = .slice none 0 0 ∧ l = []) ∨ ∃ g cur, v = .slice (some ⟨g, 0, none⟩) l.length l.length ∧ B ≤ g ∧ w.heap[g]? = some (.cells cur 5 (0, 0)) ∧ l.length ≤ cur.size ∧ cur.toList.take l.length = bv l
theorem Cut.rd {w : World} {B : Nat} {v : Value} {l : List UInt8} (h : Cut w B v l) : Rd w v (bv l) := by
  rcases h with ⟨rfl, rfl⟩ | ⟨g, cur, rfl, hb, hg, hs, ht⟩
  · exact Rd.nil w
  · refine ⟨some ⟨g, 0, none⟩, l.length, by rw [bv_length], by rw [bv_length]; exact Nat.le_refl _, (fun h => by cases h), fun a ha => ?_⟩
    cases ha
    intro i u hu
    rw [Addr.add_lit, Nat.zero_add, cell_of_row w g i _ _ _ hg]
    rw [← ht, List.getElem?_take] at hu
    split at hu
    · simpa using hu
    · cases hu
theorem Cut.of_own {w : World} {B n : Nat} {a : Option Addr} {c : Nat} {l : List UInt8} (h : Own w B 5 (.slice a n c) (bv l)) : Cut w B (.slice a n n) l := by
  have hn := h.rd.len
  rw [bv_length] at hn
  rcases h.2 with ⟨h1, h2⟩ | ⟨g, cap, cur, hv, hb, hg, h1, h2, h3, h4⟩
  · simp only [Value.slice.injEq] at h1
    obtain ⟨rfl, rfl, _⟩ := h1
    exact .inl ⟨rfl, List.eq_nil_of_length_eq_zero hn.symm⟩
  · simp only [Value.slice.injEq] at hv
    obtain ⟨rfl, _, _⟩ := hv
    rw [bv_length] at h1 h4
    exact .inr ⟨g, cur, by rw [← hn], hb, hg, by omega, by simpa using h4⟩
theorem run_clip (W : World) (a : Option Addr) (n c : Nat) (h : n ≤ c) :
    (Instr.sliceAt 27 (.slice a n c) none (some (.int .i64 n)) (some (.int .i64 n))).run Tryd.prog W = .ok (.slice a n n) W := by
  rw [run_sliceAt_slice (P := Tryd.prog) W 27 _ _ _ _ (by kernel_rfl), run_slice_hm (P := Tryd.prog) W 27 a n c (by kernel_rfl) .i64 .i64 n n (by omega) (by omega) (by omega)]
  have hs : (sizeOf (Tryd.prog.elem 27)).run Tryd.prog W = .ok 1 W := by kernel_rfl
  rw [hs]
  simp only [Result.andThen_ok, sliced, Int.toNat_natCast, Nat.sub_zero, Nat.zero_mul]
  split
  · rfl
  · cases a with
    | none => rfl
    | some a => simp [Addr.add]
set_option maxRecDepth 100000 in
theorem clip_any (B : Nat) (v : Value) (l : List UInt8) (w : World) (h : Own w B 5 v (bv l)) :
    Calls Tryd.prog 73 #[v] w fun e w' => ∃ v', e = .returned v' ∧ w = w' ∧ Cut w B v' l := by
  obtain ⟨a, c, rfl⟩ := h.rd.form
  rw [bv_length] at h ⊢
  have HC := Lib.hid (Cut.of_own h)
  have hle : l.length ≤ c := by
    obtain ⟨a', c', he, h1, _⟩ := h.rd
    simp only [Value.slice.injEq] at he
    rw [bv_length] at h1
    omega
  have hr := fun W => run_clip W a l.length c hle
  clear h hle
  go_enter Tryd.func73, Tryd.ntmps73
  go_wp2_with fail
  go_ret
  exact ⟨_, rfl, rfl, HC.out⟩
/-- what the places hold, one behind the other -/
def textL (ps : List (Option (List UInt8))) : List UInt8 := (ps.map fun o => o.getD []).flatten
theorem textL_snoc {ps : List (Option (List UInt8))} {k : Nat} {c : List UInt8} (h : ps[k]? = some (some c)) : textL (ps.take (k + 1)) = textL (ps.take k) ++ c := by
  unfold textL
  rw [List.take_add_one, h]
  simp
theorem textL_len : ∀ (ps : List (Option (List UInt8))), (∀ c, some c ∈ ps → c.length ≤ 497) → (textL ps).length ≤ 497 * ps.length
  | [], _ => by simp [textL]
  | a :: r, h => by
    have ih := textL_len r (fun c hc => h c (List.mem_cons_of_mem _ hc))
    unfold textL at ih ⊢
    rw [List.map_cons, List.flatten_cons, List.length_append, List.length_cons]
    cases a with
    | none => simp only [Option.getD_none, List.length_nil]; omega
    | some c =>
      have := h c (by simp)
      simp only [Option.getD_some]
      omega
/-- no place is longer than a part's room -/
theorem PcAt.short {w : World} {F : Nat → Prop} {pb ab : Nat} {sum : List UInt8} {ps : List (Option (List UInt8))} (h : PcAt w F pb ab sum ps) : ∀ c, some c ∈ ps → c.length ≤ 497 := by
  intro c hc
  obtain ⟨vals, _, h2, h3⟩ := h.ha
  obtain ⟨i, hi⟩ := List.getElem?_of_mem hc
  have hlt := (List.getElem?_eq_some_iff.1 hi).1
  obtain ⟨xb, q, cv, _, _, hp, rfl, _⟩ := h3 i vals[i] (some c) (List.getElem?_eq_getElem (by omega)) hi
  exact hp.l
set_option maxRecDepth 100000 in
set_option maxHeartbeats 1000000 in
theorem text_nil (F : Nat → Prop) (pb ab : Nat) (sum : List UInt8) (ps : List (Option (List UInt8))) (w : World) (h : PcAt w F pb ab sum ps) (hnn : none ∉ ps) :
    Calls Tryd.prog 52 #[pv pb, .pointer none] w fun e w' => ∃ v, e = .returned v ∧ Cut w' w.heap.size v (textL ps) ∧ Kp [] w w' := by
  have hc0 : w.cell? ⟨pb, 8, none⟩ = some (.slice (some ⟨ab, 0, none⟩) ps.length ps.length) := by
    rw [cell_of_row w pb 8 _ _ _ h.hp]
    simp [bv_length, h.hs]
  obtain ⟨vals, ha, hvl, hv⟩ := h.ha
  have HA := Lib.hid ha
  have HVL := Lib.hid hvl
  have HV := Lib.hid hv
  have HN : Hid (none ∉ ps) := Lib.hid hnn
  have HSH := Lib.hid h.short
  have hn2 : ps.length ≤ 64 := h.hn.2
  have HLT : Hid (∀ k, (ps.take k).length ≤ 64) := Lib.hid (fun k => by rw [List.length_take]; omega)
  clear ha hvl hv h hnn
  unfold pv
  go_enter Tryd.func52, Tryd.ntmps52
  go_wp2_with fail
  go_loopw [5, 13] (fun v i wr => ∃ k : Nat, k ≤ ps.length ∧ i = .int .i64 k ∧ Hid (Own wr w.heap.size 5 v (bv (textL (ps.take k))) ∧ Kp [] w wr)) (fun _ i _ => ps.length - (intOf i).toNat)
  case atStart => exact ⟨0, Nat.zero_le _, rfl, Lib.hid ⟨Own.nil _ _ _, Kp.refl _ _⟩⟩
  case round =>
    obtain ⟨k, hk, rfl, HR⟩ := hrel
    by_cases hlt : k < ps.length
    · obtain ⟨o, ho⟩ : ∃ o, ps[k]? = some o := ⟨_, List.getElem?_eq_getElem hlt⟩
      obtain ⟨x, hx⟩ : ∃ x, vals[k]? = some x := ⟨_, List.getElem?_eq_getElem (by rw [HVL.out]; exact hlt)⟩
      have hcx : wr.cell? ⟨ab, k, none⟩ = some x := by rw [cell_of_row wr ab k _ _ _ (HR.out.2.heap HA.out (by simp))]; simpa using hx
      have hpt := HV.out k x o hx ho
      cases o with
      | none => exact absurd (List.mem_of_getElem? ho) HN.out
      | some c =>
        obtain ⟨xb, q, cv, rfl, _, hpa, hqc, _⟩ := hpt
        have hq11 : wr.cell? ⟨xb, 11, none⟩ = some cv := by rw [cell_of_row wr xb 11 _ _ _ (HR.out.2.heap hpa.h (by simp))]; simpa using pcl_11 q.id q.cnt q.idx q.sum cv hpa.s
        have HCV := Lib.hid (hpa.c.kp0 HR.out.2)
        have HTS : Hid (textL (ps.take (k + 1)) = textL (ps.take k) ++ q.cont) := Lib.hid (textL_snoc (by rw [hqc]; exact ho))
        have HTL := Lib.hid (textL_len (ps.take k) (fun c hc => HSH.out c (List.mem_of_mem_take hc)))
        have HQL := Lib.hid hpa.l
        obtain ⟨ac, cc, rfl⟩ := hpa.c.form
        rw [bv_length] at hq11 HCV
        clear ho hx hpa hqc
        unfold pv at hcx
        go_wp2_with (first
          | (at_builtin; (refine wpl_append el_u8 rfl _ _ rfl rfl rfl HR.out.1 HCV.out (bv_oneCell _) (by rw [bv_length, bv_length]; have := HTL.out; have := HQL.out; have := HLT.out k; omega) (by rw [bv_length, bv_length]; have := HTL.out; have := HQL.out; have := HLT.out k; omega) HR.out.2.size ?_; intro v1 w1 ho1 hg1; have HO1 := Lib.hid ho1; have HK1 : Hid (Kp [] w w1) := Lib.hid (HR.out.2.grown hg1 (fun b hb => .inr (HR.out.1.lt hb).1)); clear ho1 hg1))
          | fail)
        go_roundw
        case rel => exact ⟨k + 1, by omega, by go_num, Lib.hid ⟨by rw [HTS.out, bv_append]; exact HO1.out, HK1.out⟩⟩
        case measure => simp [intOf]; omega
    · have hke : k = ps.length := by omega
      subst hke
      have HE : Hid (ps.take ps.length = ps) := Lib.hid (List.take_of_length_le (Nat.le_refl _))
      rw [HE.out] at HR
      obtain ⟨a9, c9, rfl⟩ := HR.out.1.rd.form
      rw [bv_length] at HR ⊢
      go_wp2_with (first
        | (go_at_call 73; go_must (refine (clip_any w.heap.size _ _ wr HR.out.1).mono ?_; rintro e w9 ⟨v9, rfl, rfl, hcu⟩; have HCU := Lib.hid hcu; clear hcu))
        | fail)
      go_ret
      exact ⟨_, rfl, HCU.out, HR.out.2⟩
set_option maxRecDepth 100000 in
set_option maxHeartbeats 1000000 in
theorem text_with (F : Nat → Prop) (pb ab : Nat) (sum : List UInt8) (ps : List (Option (List UInt8))) (xb : Nat) (q : Prt) (cv : Value) (ix : Nat) (w : World) (h : PcAt w F pb ab sum ps) (hx : PartAt w xb q cv) (hix : q.idx = (ix : Int)) (hnn : ∀ i, i ≠ ix → ps[i]? ≠ some none) :
    Calls Tryd.prog 52 #[pv pb, pv xb] w fun e w' => ∃ v, e = .returned v ∧ Cut w' w.heap.size v (textL (ps.set ix (some q.cont))) ∧ Kp [] w w' := by
  have hc0 : w.cell? ⟨pb, 8, none⟩ = some (.slice (some ⟨ab, 0, none⟩) ps.length ps.length) := by
    rw [cell_of_row w pb 8 _ _ _ h.hp]
    simp [bv_length, h.hs]
  obtain ⟨vals, ha, hvl, hv⟩ := h.ha
  have HA := Lib.hid ha
  have HVL := Lib.hid hvl
  have HV := Lib.hid hv
  have HN := Lib.hid hnn
  have HX := Lib.hid hx.h
  have HXS := Lib.hid hx.s
  have HXC := Lib.hid hx.c
  have HXI := Lib.hid hix
  have HQL0 := Lib.hid hx.l
  have HSH : Hid (∀ c, some c ∈ ps.set ix (some q.cont) → c.length ≤ 497) := Lib.hid (fun c hc => by
    rcases List.mem_or_eq_of_mem_set hc with hc | hc
    · exact h.short c hc
    · cases hc; exact hx.l)
  have hn2 : ps.length ≤ 64 := h.hn.2
  have HLT : Hid (∀ k, ((ps.set ix (some q.cont)).take k).length ≤ 64) := Lib.hid (fun k => by rw [List.length_take, List.length_set]; omega)
  clear ha hvl hv h hnn hx hix
  unfold pv
  go_enter Tryd.func52, Tryd.ntmps52
  go_wp2_with fail
  go_loopw [5, 13] (fun v i wr => ∃ k : Nat, k ≤ ps.length ∧ i = .int .i64 k ∧ Hid (Own wr w.heap.size 5 v (bv (textL ((ps.set ix (some q.cont)).take k))) ∧ Kp [] w wr)) (fun _ i _ => ps.length - (intOf i).toNat)
  case atStart => exact ⟨0, Nat.zero_le _, rfl, Lib.hid ⟨Own.nil _ _ _, Kp.refl _ _⟩⟩
  case round =>
    obtain ⟨k, hk, rfl, HR⟩ := hrel
    by_cases hlt : k < ps.length
    · obtain ⟨o, ho⟩ : ∃ o, ps[k]? = some o := ⟨_, List.getElem?_eq_getElem hlt⟩
      obtain ⟨x, hx⟩ : ∃ x, vals[k]? = some x := ⟨_, List.getElem?_eq_getElem (by rw [HVL.out]; exact hlt)⟩
      have hcx : wr.cell? ⟨ab, k, none⟩ = some x := by rw [cell_of_row wr ab k _ _ _ (HR.out.2.heap HA.out (by simp))]; simpa using hx
      have hpt := HV.out k x o hx ho
      by_cases hki : k = ix
      · subst hki
        obtain ⟨ax, cx, hfx⟩ := HXC.out.form
        rw [bv_length] at hfx
        subst hfx
        have hq11 : wr.cell? ⟨xb, 11, none⟩ = some (.slice ax q.cont.length cx) := by rw [cell_of_row wr xb 11 _ _ _ (HR.out.2.heap HX.out (by simp))]; simpa using pcl_11 q.id q.cnt q.idx q.sum _ HXS.out
        have hq2 : wr.cell? ⟨xb, 2, none⟩ = some (.int .i64 (k : Int)) := by rw [cell_of_row wr xb 2 _ _ _ (HR.out.2.heap HX.out (by simp)), ← HXI.out]; rfl
        have HCV := Lib.hid (HXC.out.kp0 HR.out.2)
        have HTS : Hid (textL ((ps.set k (some q.cont)).take (k + 1)) = textL ((ps.set k (some q.cont)).take k) ++ q.cont) := Lib.hid (textL_snoc (by simp [hlt]))
        have HTL := Lib.hid (textL_len ((ps.set k (some q.cont)).take k) (fun c hc => HSH.out c (List.mem_of_mem_take hc)))
        obtain ⟨xo, hxo⟩ : ∃ xo, x = .pointer xo := by
          cases o with
          | none => exact ⟨_, hpt⟩
          | some c => obtain ⟨xb, q, cv, h1, _⟩ := hpt; exact ⟨_, h1⟩
        subst hxo
        clear ho hx hpt
        go_wp2_with (first
          | (at_builtin; (refine wpl_append el_u8 rfl _ _ rfl rfl rfl HR.out.1 HCV.out (bv_oneCell _) (by rw [bv_length, bv_length]; have := HTL.out; have := HQL0.out; have := HLT.out k; omega) (by rw [bv_length, bv_length]; have := HTL.out; have := HQL0.out; have := HLT.out k; omega) HR.out.2.size ?_; intro v1 w1 ho1 hg1; have HO1 := Lib.hid ho1; have HK1 : Hid (Kp [] w w1) := Lib.hid (HR.out.2.grown hg1 (fun b hb => .inr (HR.out.1.lt hb).1)); clear ho1 hg1))
          | fail)
        go_roundw
        case rel => exact ⟨k + 1, by omega, by go_num, Lib.hid ⟨by rw [HTS.out, bv_append]; exact HO1.out, HK1.out⟩⟩
        case measure => simp [intOf]; omega
      have hq2 : wr.cell? ⟨xb, 2, none⟩ = some (.int .i64 (ix : Int)) := by rw [cell_of_row wr xb 2 _ _ _ (HR.out.2.heap HX.out (by simp)), ← HXI.out]; rfl
      have hkb : ((k : Int) == (ix : Int)) = false := by rw [beq_eq_false_iff_ne]; omega
      cases o with
      | none => exact absurd ho (HN.out k hki)
      | some c =>
        obtain ⟨xb', q', cv', rfl, _, hpa, hqc, _⟩ := hpt
        have hq11 : wr.cell? ⟨xb', 11, none⟩ = some cv' := by rw [cell_of_row wr xb' 11 _ _ _ (HR.out.2.heap hpa.h (by simp))]; simpa using pcl_11 q'.id q'.cnt q'.idx q'.sum cv' hpa.s
        have HCV := Lib.hid (hpa.c.kp0 HR.out.2)
        have HTS : Hid (textL ((ps.set ix (some q.cont)).take (k + 1)) = textL ((ps.set ix (some q.cont)).take k) ++ q'.cont) := Lib.hid (textL_snoc (by rw [hqc]; rw [List.getElem?_set_ne (fun e => hki e.symm)]; exact ho))
        have HTL := Lib.hid (textL_len ((ps.set ix (some q.cont)).take k) (fun c hc => HSH.out c (List.mem_of_mem_take hc)))
        have HQL := Lib.hid hpa.l
        obtain ⟨ac, cc, rfl⟩ := hpa.c.form
        rw [bv_length] at hq11 HCV
        clear ho hx hpa hqc
        unfold pv at hcx
        go_wp2_with (first
          | (at_builtin; (refine wpl_append el_u8 rfl _ _ rfl rfl rfl HR.out.1 HCV.out (bv_oneCell _) (by rw [bv_length, bv_length]; have := HTL.out; have := HQL.out; have := HLT.out k; omega) (by rw [bv_length, bv_length]; have := HTL.out; have := HQL.out; have := HLT.out k; omega) HR.out.2.size ?_; intro v1 w1 ho1 hg1; have HO1 := Lib.hid ho1; have HK1 : Hid (Kp [] w w1) := Lib.hid (HR.out.2.grown hg1 (fun b hb => .inr (HR.out.1.lt hb).1)); clear ho1 hg1))
          | fail)
        go_roundw
        case rel => exact ⟨k + 1, by omega, by go_num, Lib.hid ⟨by rw [HTS.out, bv_append]; exact HO1.out, HK1.out⟩⟩
        case measure => simp [intOf]; omega
    · have hke : k = ps.length := by omega
      subst hke
      have HE : Hid ((ps.set ix (some q.cont)).take ps.length = (ps.set ix (some q.cont))) := Lib.hid (List.take_of_length_le (by rw [List.length_set]; exact Nat.le_refl _))
      rw [HE.out] at HR
      obtain ⟨a9, c9, rfl⟩ := HR.out.1.rd.form
      rw [bv_length] at HR ⊢
      go_wp2_with (first
        | (go_at_call 73; go_must (refine (clip_any w.heap.size _ _ wr HR.out.1).mono ?_; rintro e w9 ⟨v9, rfl, rfl, hcu⟩; have HCU := Lib.hid hcu; clear hcu))
        | fail)
      go_ret
      exact ⟨_, rfl, HCU.out, HR.out.2⟩
end Go.Proofs.YtkceaepbjdfccaaDoor
