/-
(*parcel.Tray).Missing and Take.
-/
import Derived.Test.YtkceaepbjdfccaaDoorPar9
namespace Go.Proofs.YtkceaepbjdfccaaDoor
open Go.RowKit
/-- what Missing answers -/
def missP (T : List Ent) (k : Ky) : List Nat × Int :=
  if peerErr k.1.length ≠ 0 then ([], 212) else match findE T k with
    | none => ([], 201)
    | some e => (missL e.parts, 0)
/-- what Take answers, and leaves -/
def takeP (T : List Ent) (k : Ky) : (List UInt8 × Int) × List Ent :=
  if peerErr k.1.length ≠ 0 then (([], 212), T) else match findE T k with
    | none => (([], 201), T)
    | some e => if 0 < (missL e.parts).length then (([], 261), T) else ((textL e.parts, 0), T.filter fun e => e.ky != k)
theorem findZ_mem {Z : List Zt} {k : Ky} {z : Zt} (h : findZ Z k = some z) : z ∈ Z ∧ z.e.ky = k := by
  unfold findZ at h
  exact ⟨List.mem_of_find?_eq_some h, by simpa using List.find?_some h⟩
theorem foundV_bad {Z : List Zt} {k : Ky} (h : peerErr k.1.length = 212) : foundV Z k = (.pointer none, 212) := by unfold foundV; rw [if_pos (by simp [h])]
theorem foundV_none {Z : List Zt} {k : Ky} (h : peerErr k.1.length = 0) (hz : findZ Z k = none) : foundV Z k = (.pointer none, 201) := by unfold foundV; rw [if_neg (by simp [h]), hz]
theorem foundV_some {Z : List Zt} {k : Ky} {z : Zt} (h : peerErr k.1.length = 0) (hz : findZ Z k = some z) : foundV Z k = (pv z.pb, 0) := by unfold foundV; rw [if_neg (by simp [h]), hz]
set_option maxRecDepth 100000 in
set_option maxHeartbeats 1000000 in
theorem missing_tray (F : Nat → Prop) (t : Nat) (most : Int) (T : List Ent) (p : List UInt8) (id : Int) (w : World) (h : TR w F t most T) (hp : p.length ≤ 140737488351232) (h0 : 0 ≤ id) (h1 : id < 4294967296) :
    Calls Tryd.prog 27 #[.pointer (some ⟨t, 0, none⟩), .string (strOf p), .int .u32 id] w fun e w' => ∃ v, e = .returned (.tuple #[v, .int .i64 (missP T (p, id)).2]) ∧ Own w' w.heap.size 3 v (nv (missP T (p, id)).1) ∧ Kp [] w w' := by
  obtain ⟨G, B, Z, hz1, rfl, _⟩ := h.ex
  have HF := Lib.hid (found_any G t most B Z p id w hz1 hp h0 h1)
  rcases peerErr_or p.length with he | he
  · have hM : missP (Zl Z) (p, id) = match findE (Zl Z) (p, id) with | none => ([], 201) | some e => (missL e.parts, 0) := by unfold missP; rw [if_neg (by simp [he])]
    rw [findE_Zl] at hM
    cases hz : findZ Z (p, id) with
    | none =>
      rw [foundV_none he hz] at HF
      rw [hz] at hM
      have HM := Lib.hid hM
      clear hM hz he h hz1
      go_enter Tryd.func27, Tryd.ntmps27
      go_wp2_with (first
        | (go_at_call 53; go_must (refine HF.out.mono ?_; rintro e w1 ⟨rfl, rfl⟩))
        | fail)
      go_ret2
      exact ⟨_, by rw [HM.out]; rfl, by rw [HM.out]; exact Own.nil _ _ _, Kp.refl _ _⟩
    | some z =>
      rw [foundV_some he hz] at HF
      rw [hz] at hM
      have HM := Lib.hid hM
      have HPC := Lib.hid (missing_any G z.pb z.ab z.e.sum z.e.parts w (hz1.p z (findZ_mem hz).1))
      unfold pv at HF HPC
      clear hM hz he h hz1
      go_enter Tryd.func27, Tryd.ntmps27
      go_wp2_with (first
        | (go_at_call 53; go_must (refine HF.out.mono ?_; rintro e w1 ⟨rfl, rfl⟩))
        | (go_at_call 51; go_must (refine HPC.out.mono ?_; rintro e w2 ⟨v2, rfl, ho2, hk2⟩; have HO2 := Lib.hid ho2; have HK2 := Lib.hid hk2; clear ho2 hk2))
        | fail)
      go_ret2
      exact ⟨_, by rw [HM.out]; rfl, by rw [HM.out]; exact HO2.out, HK2.out⟩
  · rw [foundV_bad he] at HF
    have HM : Hid (missP (Zl Z) (p, id) = ([], 212)) := Lib.hid (by unfold missP; rw [if_pos (by simp [he])])
    clear he h hz1
    go_enter Tryd.func27, Tryd.ntmps27
    go_wp2_with (first
      | (go_at_call 53; go_must (refine HF.out.mono ?_; rintro e w1 ⟨rfl, rfl⟩))
      | fail)
    go_ret2
    exact ⟨_, by rw [HM.out]; rfl, by rw [HM.out]; exact Own.nil _ _ _, Kp.refl _ _⟩
theorem missL_nil {ps : List (Option (List UInt8))} (h : (missL ps).length = 0) : none ∉ ps := by
  intro hm
  obtain ⟨i, hi⟩ := List.getElem?_of_mem hm
  have h1 := List.eq_nil_of_length_eq_zero h
  have hlt := (List.getElem?_eq_some_iff.1 hi).1
  unfold missL missT at h1
  rw [List.filter_eq_nil_iff] at h1
  have := h1 i (List.mem_range.2 hlt)
  simp [List.getD, hi] at this
/-- delete of a key -/
theorem wpl_delete {ops : Array Oper} {rest : List Oper} {o : Oper} {a : Act} {Q : Exit → Act → World → Prop} (hg : o.guard = none) (m x : Operand)
    (hop : o.op = Op.call { callee := Callee.builtin Builtin.delete, args := #[m, x], argTypes := #[97, 105] })
    {w : World} {B : Nat} {K : List (Ky × Nat)} {k : Ky} (hm : a.eval m = .map (some B)) (hx : a.eval x = kv k) (h : MapIs w B K) (hk : Kok k)
    (hK : ∀ w', MapIs w' B (delK K k) → Kp [B] w w' → wpList Tryd.prog ops Q rest (a.put o.dst (.tuple #[])) w') : wpList Tryd.prog ops Q (o :: rest) a w := by
  refine wpList_plain hg fun K' hK' => ?_
  obtain ⟨w', hrun, r1, r2⟩ := h.del hk o.type
  unfold Oper.wp
  simp [execOp, hop, resolve, invoke, builtin, hm, hx, hrun, Result.andThen]
  exact hK' _ _ (hK w' r1 r2)
/-- Z without a key -/
theorem Zk_filter (Z : List Zt) (k : Ky) : Zk (Z.filter fun z => z.e.ky != k) = delK (Zk Z) k := by
  unfold Zk delK
  rw [List.filter_map]
  rfl
theorem Zl_filter (Z : List Zt) (f : Ent → Bool) : Zl (Z.filter fun z => f z.e) = (Zl Z).filter f := by
  unfold Zl
  rw [List.filter_map]
  rfl
theorem TRz.del {w w' : World} {G : Nat → Prop} {t : Nat} {most : Int} {B : Nat} {Z : List Zt} (h : TRz w G t most B Z) {f : Zt → Bool} (hm : MapIs w' B (Zk (Z.filter f))) (k : Kp [B] w w') : TRz w' G t most B (Z.filter f) := by
  have hGB : ∀ b ∈ [B], ¬ G b := fun b hb => by rw [List.mem_singleton] at hb; subst hb; exact h.gB
  refine ⟨h.gB, fun z hz => h.ga z (List.mem_filter.1 hz).1, h.gt, k.heap h.ht (fun hm => hGB _ hm h.gt), hm, fun z hz => ?_, h.nd.sublist (List.filter_sublist.map _), h.hm, ?_⟩
  · have hz' := (List.mem_filter.1 hz).1
    exact (h.p z hz').kp k hGB (by rw [List.mem_singleton]; exact h.aB hz') (fun _ hb => hb)
  · have := List.length_filter_le f Z
    have := h.len
    omega
set_option maxRecDepth 100000 in
set_option maxHeartbeats 1000000 in
theorem take_tray (F : Nat → Prop) (t : Nat) (most : Int) (T : List Ent) (p : List UInt8) (id : Int) (w : World) (h : TR w F t most T) (hp : p.length ≤ 140737488351232) (h0 : 0 ≤ id) (h1 : id < 4294967296) :
    Calls Tryd.prog 28 #[.pointer (some ⟨t, 0, none⟩), .string (strOf p), .int .u32 id] w fun e w' => ∃ v L, e = .returned (.tuple #[v, .int .i64 (takeP T (p, id)).1.2]) ∧ Cut w' w.heap.size v (takeP T (p, id)).1.1 ∧ TR w' F t most (takeP T (p, id)).2 ∧ (∀ b ∈ L, F b) ∧ Kp L w w' := by
  obtain ⟨G, B, Z, hz1, rfl, hFB, hGF, hFa⟩ := h.ex
  have HF := Lib.hid (found_any G t most B Z p id w hz1 hp h0 h1)
  have HTR := Lib.hid h
  rcases peerErr_or p.length with he | he
  · have hM : takeP (Zl Z) (p, id) = match findE (Zl Z) (p, id) with | none => (([], 201), Zl Z) | some e => if 0 < (missL e.parts).length then (([], 261), Zl Z) else ((textL e.parts, 0), (Zl Z).filter fun e => e.ky != (p, id)) := by unfold takeP; rw [if_neg (by simp [he])]
    rw [findE_Zl] at hM
    cases hz : findZ Z (p, id) with
    | none =>
      rw [foundV_none he hz] at HF
      rw [hz] at hM
      have HM := Lib.hid hM
      clear hM hz he h hz1
      go_enter Tryd.func28, Tryd.ntmps28
      go_wp2_with (first
        | (go_at_call 53; go_must (refine HF.out.mono ?_; rintro e w1 ⟨rfl, rfl⟩))
        | fail)
      go_ret2
      exact ⟨_, [], by rw [HM.out]; rfl, by rw [HM.out]; exact .inl ⟨rfl, rfl⟩, by rw [HM.out]; exact HTR.out, by simp, Kp.refl _ _⟩
    | some z =>
      rw [foundV_some he hz] at HF
      rw [hz] at hM
      simp only [Option.map_some] at hM
      have hzm := (findZ_mem hz).1
      have HPC := Lib.hid (missing_any G z.pb z.ab z.e.sum z.e.parts w (hz1.p z hzm))
      have hc1 : w.cell? ⟨t, 1, none⟩ = some (.map (some B)) := by rw [cell_of_row w t 1 _ _ _ hz1.ht]; rfl
      have HZ := Lib.hid hz1
      unfold pv at HF HPC
      by_cases hml : (missL z.e.parts).length = 0
      · rw [if_neg (by omega)] at hM
        have HM := Lib.hid hM
        have HNN := Lib.hid (missL_nil hml)
        rw [List.eq_nil_of_length_eq_zero hml] at HPC
        have HTX : Hid (∀ W, TRz W G t most B (Z.filter fun z => z.e.ky != (p, id)) → PcAt W G z.pb z.ab z.e.sum z.e.parts → Calls Tryd.prog 52 #[pv z.pb, .pointer none] W fun e w' => ∃ v, e = .returned v ∧ Cut w' W.heap.size v (textL z.e.parts) ∧ Kp [] W w') := Lib.hid (fun W _ h => text_nil G z.pb z.ab z.e.sum z.e.parts W h HNN.out)
        unfold pv at HTX
        have HKO : Hid (Kok (p, id)) := Lib.hid ⟨by show p.length ≤ _; omega, h0, h1⟩
        have HZM := Lib.hid hzm
        clear hM hz he h hz1 hml hzm
        go_enter Tryd.func28, Tryd.ntmps28
        go_wp2_with (first
          | (go_at_call 53; go_must (refine HF.out.mono ?_; rintro e w1 ⟨rfl, rfl⟩))
          | (go_at_call 51; go_must (refine HPC.out.mono ?_; rintro e w2 ⟨v2, rfl, ho2, hk2⟩; have HZ2 := Lib.hid (HZ.out.kp0 hk2); have HK2 := Lib.hid hk2; have hc2 : w2.cell? ⟨t, 1, none⟩ = some (.map (some B)) := (by rw [cell_of_row w2 t 1 _ _ _ HZ2.out.ht]; rfl); obtain ⟨a2, c2, rfl⟩ := ho2.rd.form; clear ho2 hk2))
          | (at_delete; (refine wpl_delete rfl _ _ rfl rfl (k := (p, id)) rfl HZ2.out.m HKO.out ?_; intro w3 hm3 hk3; have HZ3 : Hid (TRz w3 G t most B (Z.filter fun z => z.e.ky != (p, id))) := Lib.hid (HZ2.out.del (by rw [Zk_filter]; exact hm3) hk3); have HP3 : Hid (PcAt w3 G z.pb z.ab z.e.sum z.e.parts) := Lib.hid ((HZ2.out.p z HZM.out).kp hk3 (fun b hb => by rw [List.mem_singleton] at hb; subst hb; exact HZ2.out.gB) (by rw [List.mem_singleton]; exact HZ2.out.aB HZM.out) (fun _ hb => hb)); have HK3 : Hid (Kp [B] w w3) := Lib.hid ((HK2.out.mono (by simp)).trans hk3 (fun m hm => .inl hm)); clear hm3 hk3))
          | (go_at_call 52; go_must (refine (HTX.out _ HZ3.out HP3.out).mono ?_; rintro e w4 ⟨v4, rfl, hcu4, hk4⟩; have HCU4 := Lib.hid hcu4; have HK4 := Lib.hid hk4; clear hcu4 hk4))
          | fail)
        go_ret2
        refine ⟨_, [B], by rw [HM.out]; rfl, ?_, ?_, fun b hb => by rw [List.mem_singleton] at hb; subst hb; exact hFB, HK3.out.trans0 HK4.out⟩
        · rw [HM.out]
          rcases HCU4.out with ⟨r1, r2⟩ | ⟨g, cur, r1, r2, r3⟩
          · exact .inl ⟨r1, r2⟩
          · exact .inr ⟨g, cur, r1, Nat.le_trans HK3.out.size r2, r3⟩
        · rw [HM.out]
          exact ⟨fun b hb => Nat.lt_of_lt_of_le (HTR.out.lt b hb) (HK3.out.trans0 HK4.out).size, G, B, _, HZ3.out.kp0 HK4.out, Zl_filter Z (fun e => e.ky != (p, id)), hFB, hGF, fun z hz => hFa z (List.mem_filter.1 hz).1⟩
      · rw [if_pos (by omega)] at hM
        have HM := Lib.hid hM
        have hml2 : 0 < (missL z.e.parts).length := by omega
        have hml3 : (0 : Int) < ((nv (missL z.e.parts)).length : Int) := by rw [nv_len]; omega
        clear hM hz he h hz1 hml hzm hml2
        go_enter Tryd.func28, Tryd.ntmps28
        go_wp2_with (first
          | (go_at_call 53; go_must (refine HF.out.mono ?_; rintro e w1 ⟨rfl, rfl⟩))
          | (go_at_call 51; go_must (refine HPC.out.mono ?_; rintro e w2 ⟨v2, rfl, ho2, hk2⟩; have HK2 := Lib.hid hk2; obtain ⟨a2, c2, rfl⟩ := ho2.rd.form; clear ho2 hk2))
          | fail)
        go_ret2
        exact ⟨_, [], by rw [HM.out]; rfl, by rw [HM.out]; exact .inl ⟨rfl, rfl⟩, by rw [HM.out]; exact HTR.out.kp0 HK2.out, by simp, HK2.out⟩
  · rw [foundV_bad he] at HF
    have HM : Hid (takeP (Zl Z) (p, id) = (([], 212), Zl Z)) := Lib.hid (by unfold takeP; rw [if_pos (by simp [he])])
    clear he h hz1
    go_enter Tryd.func28, Tryd.ntmps28
    go_wp2_with (first
      | (go_at_call 53; go_must (refine HF.out.mono ?_; rintro e w1 ⟨rfl, rfl⟩))
      | fail)
    go_ret2
    exact ⟨_, [], by rw [HM.out]; rfl, by rw [HM.out]; exact .inl ⟨rfl, rfl⟩, by rw [HM.out]; exact HTR.out, by simp, Kp.refl _ _⟩
end Go.Proofs.YtkceaepbjdfccaaDoor
