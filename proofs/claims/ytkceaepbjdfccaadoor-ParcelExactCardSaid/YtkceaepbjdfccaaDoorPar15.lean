/-
(*parcel.Tray).Add: what it answers and leaves.
-/
import Derived.Test.YtkceaepbjdfccaaDoorPar14
namespace Go.Proofs.YtkceaepbjdfccaaDoor
open Go.RowKit
/-- what Add answers and leaves; mk: what a text's parts tell of it -/
def addE (mk : List UInt8 → List UInt8) (most : Int) (T : List Ent) (p b : List UInt8) : (Int × Bool × Int) × List Ent :=
  if peerErr p.length ≠ 0 then ((0, false, 212), T) else
  match readL b with
  | none => ((0, false, 260), T)
  | some q => match findE T (p, q.id) with
    | none =>
      if most ≤ T.length then ((0, false, 120), T)
      else if (missL (List.replicate q.cnt.toNat none)).length = 1 ∧ mk (textL ((List.replicate q.cnt.toNat none).set q.idx.toNat (some q.cont))) ≠ q.sum then ((0, false, 101), T)
      else ((q.id, decide ((missL (List.replicate q.cnt.toNat none)).length = 1), 0), T ++ [⟨p, q.id, q.sum, (List.replicate q.cnt.toNat none).set q.idx.toNat (some q.cont)⟩])
    | some e =>
      if (e.parts.length : Int) ≠ q.cnt ∨ e.sum ≠ q.sum then ((0, false, 260), T)
      else if e.parts[q.idx.toNat]? ≠ some none then ((0, false, 151), T)
      else if (missL e.parts).length = 1 ∧ mk (textL (e.parts.set q.idx.toNat (some q.cont))) ≠ e.sum then ((0, false, 101), T)
      else ((q.id, decide ((missL e.parts).length = 1), 0), setE T (p, q.id) q.idx.toNat q.cont)
/-- the blocks behind a call that makes some -/
def Fn (F : Nat → Prop) (w w' : World) : Nat → Prop := fun b => F b ∨ (w.heap.size ≤ b ∧ b < w'.heap.size)
theorem PtAt.cut {w : World} {F : Nat → Prop} {v : Value} {o : Option (List UInt8)} (h : PtAt w F v o) : PtAt w (fun b => F b ∧ b < w.heap.size) v o := by
  cases o with
  | none => exact h
  | some c =>
    obtain ⟨xb, q, cv, h1, h2, h3, h4, h5⟩ := h
    exact ⟨xb, q, cv, h1, ⟨h2, (Array.getElem?_eq_some_iff.1 h3.h).1⟩, h3, h4, fun b hb => ⟨h5 b hb, h3.b b hb⟩⟩
theorem PcAt.cut {w : World} {F : Nat → Prop} {pb ab : Nat} {sum : List UInt8} {ps : List (Option (List UInt8))} (h : PcAt w F pb ab sum ps) : PcAt w (fun b => F b ∧ b < w.heap.size) pb ab sum ps := by
  obtain ⟨vals, h1, h2, h3⟩ := h.ha
  exact ⟨⟨h.f1, (Array.getElem?_eq_some_iff.1 h.hp).1⟩, h.hp, h.hs, h.hn, vals, h1, h2, fun i v o hv ho => (h3 i v o hv ho).cut⟩
theorem TRz.cut {w : World} {G : Nat → Prop} {t : Nat} {most : Int} {B : Nat} {Z : List Zt} (h : TRz w G t most B Z) : TRz w (fun b => G b ∧ b < w.heap.size) t most B Z :=
  ⟨fun hh => h.gB hh.1, fun z hz hh => h.ga z hz hh.1, ⟨h.gt, (Array.getElem?_eq_some_iff.1 h.ht).1⟩, h.ht, h.m, fun z hz => (h.p z hz).cut, h.nd, h.hm, h.len⟩
theorem Zl_app (Z : List Zt) (z : Zt) : Zl (Z ++ [z]) = Zl Z ++ [z.e] := by simp [Zl]
theorem Zset_ab {Z : List Zt} {k : Ky} {i : Nat} {c : List UInt8} {z : Zt} (h : z ∈ Zset Z k i c) : ∃ z0 ∈ Z, z.ab = z0.ab := by
  unfold Zset at h
  obtain ⟨z0, h0, rfl⟩ := List.mem_map.1 h
  refine ⟨z0, h0, ?_⟩
  split <;> rfl
theorem fzk_key {q : Prt} {p : List UInt8} (hq : Qok q) (hp : p.length ≤ 140737488351232) : Kok (p, q.id) := ⟨by show p.length ≤ _; omega, hq.d0, hq.d1⟩
theorem not_full {i : Nat} {ps : List (Option (List UInt8))} (hl : i < ps.length) (h : ps[i]? ≠ some none) : ∃ c, ps[i]? = some (some c) := by
  cases e : ps[i]? with
  | none => rw [List.getElem?_eq_none_iff] at e; omega
  | some o =>
    cases o with
    | none => exact absurd e h
    | some c => exact ⟨c, rfl⟩
set_option maxRecDepth 100000 in
set_option maxHeartbeats 1000000 in
theorem add_peer (p : List UInt8) (t : Nat) (v : Value) (w : World) (hp : p.length ≤ 140737488351232) (he : peerErr p.length = 212) :
    Calls Tryd.prog 26 #[.pointer (some ⟨t, 0, none⟩), .string (strOf p), v] w fun e w' => e = .returned (.tuple #[.int .u32 0, .bool false, .int .i64 212]) ∧ Kp [] w w' := by
  have HN := Lib.hid (pnamed_any (strOf p) w (by rw [strOf_size]; exact hp))
  rw [strOf_size, he] at HN
  clear he
  go_enter Tryd.func26, Tryd.ntmps26
  go_wp2_with (first
    | (go_at_call 49; go_must (refine HN.out.mono ?_; rintro e w1 ⟨rfl, rfl⟩))
    | fail)
  go_ret3
  exact ⟨rfl, Kp.refl _ _⟩
set_option maxRecDepth 100000 in
set_option maxHeartbeats 1000000 in
theorem add_nopart (p : List UInt8) (t : Nat) (v : Value) (w : World) (hp : p.length ≤ 140737488351232) (he : peerErr p.length = 0)
    (hr : Calls Tryd.prog 50 #[v] w fun e w' => e = .returned (.tuple #[.agg (pcl 0 0 0 s8 (.slice none 0 0)).toArray, .int .i64 260]) ∧ Kp [] w w') :
    Calls Tryd.prog 26 #[.pointer (some ⟨t, 0, none⟩), .string (strOf p), v] w fun e w' => e = .returned (.tuple #[.int .u32 0, .bool false, .int .i64 260]) ∧ Kp [] w w' := by
  have HN := Lib.hid (pnamed_any (strOf p) w (by rw [strOf_size]; exact hp))
  rw [strOf_size, he] at HN
  have HR := Lib.hid hr
  clear he hr
  go_enter Tryd.func26, Tryd.ntmps26
  go_wp2_with (first
    | (go_at_call 49; go_must (refine HN.out.mono ?_; rintro e w1 ⟨rfl, rfl⟩))
    | (go_at_call 50; go_must (refine HR.out.mono ?_; rintro e w1 ⟨rfl, hk1⟩; have HK1 := Lib.hid hk1; clear hk1))
    | ((with_reducible show wpList _ _ _ ({ dst := none, op := Op.store _ (.tmp 9) (.tmp 20), type := _, pos := _, after := _, guard := _ } :: _) _ _); go_must ((with_reducible refine wpList_store_row ?b1 101 (.tmp 9) (.tmp 20) ?b2 w1.heap.size (pcl 0 0 0 s8 (.slice none 0 0)).toArray ?b3 ?b4 101 (pcl 0 0 0 s8 (.slice none 0 0)).toArray ?b5 ?b6 ?b7 ?b8 ?b9); (case b1 => rfl); (case b2 => rfl); (case b3 => rfl); (case b4 => rfl); (case b5 => exact heap_alloc_new w1 _); (case b6 => kernel_rfl); (case b7 => rfl); (case b8 => exact all_oneCell_toArray (pcl_one _ _ _ _ none (0, 0)))))
    | fail)
  go_ret3
  exact ⟨rfl, HK1.out.trans0 (((Kp.refl [] w1).alloc _).trans (kp_setRow _ _ _) (fun m hm => by rw [List.mem_singleton] at hm; subst hm; exact .inr (Nat.le_refl _)))⟩
theorem add_any (mk : List UInt8 → List UInt8) (F : Nat → Prop) (t : Nat) (most : Int) (T : List Ent) (p : List UInt8) (v : Value) (b : List UInt8) (w : World) (h : TR w F t most T) (hp : p.length ≤ 140737488351232) (hv : Rd w v (bv b)) (hb : b.length ≤ 211106232532992)
    (mc : ∀ W v l, Kp [] w W → Rd W v (bv l) → l.length ≤ 562949953421312 → Calls Tryd.prog 43 #[v] W fun e w' => e = .returned (.agg (bv (mk l)).toArray) ∧ Kp [] W w') (ml : ∀ l, (mk l).length = 8) :
    Calls Tryd.prog 26 #[.pointer (some ⟨t, 0, none⟩), .string (strOf p), v] w fun e w' =>
      e = .returned (.tuple #[.int .u32 (addE mk most T p b).1.1, .bool (addE mk most T p b).1.2.1, .int .i64 (addE mk most T p b).1.2.2]) ∧ ∃ L, TR w' (Fn F w w') t most (addE mk most T p b).2 ∧ (∀ b ∈ L, F b) ∧ Kp L w w' := by
  have same : ∀ w', Kp [] w w' → ∃ L, TR w' (Fn F w w') t most T ∧ (∀ b ∈ L, F b) ∧ Kp L w w' := fun w' k => by
    obtain ⟨G, B, Z, h1, h2, h3, h4, h5⟩ := h.ex
    refine ⟨[], ⟨fun b hb => ?_, G, B, Z, h1.kp0 k, h2, .inl h3, fun b hb => .inl (h4 b hb), fun z hz => .inl (h5 z hz)⟩, by simp, k⟩
    rcases hb with hb | hb
    · exact Nat.lt_of_lt_of_le (h.lt b hb) k.size
    · exact hb.2
  rcases (peerErr_or p.length).symm with he | he
  · have hE : addE mk most T p b = ((0, false, 212), T) := by unfold addE; rw [if_pos (by simp [he])]
    rw [hE]
    exact (add_peer p t v w hp he).mono fun e w' ⟨h1, h2⟩ => ⟨h1, same w' h2⟩
  have hrd := read_part v b w hv hb
  cases hq : readL b with
  | none =>
    have hE : addE mk most T p b = ((0, false, 260), T) := by unfold addE; rw [if_neg (by simp [he]), hq]
    rw [hE]
    refine (add_nopart p t v w hp he (hrd.mono fun e w' ⟨k, h1⟩ => ?_)).mono fun e w' ⟨h1, h2⟩ => ⟨h1, same w' h2⟩
    rcases h1 with ⟨_, h1⟩ | ⟨q, cv, h1, _⟩
    · exact ⟨h1, k⟩
    · rw [hq] at h1; cases h1
  | some q =>
    obtain ⟨G, B, Z, hz1, rfl, hFB, hGF, hFa⟩ := h.ex
    have hqk := readL_ok hq
    have hA : AH mk w G t most B Z p v q := by
      refine ⟨?_, hrd.mono fun e w' ⟨k, h1⟩ => ?_, hz1, hqk, fzk_key hqk hp, mc, ml, fun b hb => h.lt b (hGF b hb)⟩
      · have := pnamed_any (strOf p) w (by rw [strOf_size]; exact hp)
        rw [strOf_size, he] at this
        exact this
      · rcases h1 with ⟨h1, _⟩ | ⟨q', cv, h1, h2, h3⟩
        · rw [hq] at h1; cases h1
        · rw [hq] at h1
          cases h1
          obtain ⟨a, c, rfl⟩ := h3.rd.form
          rw [bv_length] at h2 h3
          exact ⟨a, c, h2, h3, k⟩
    have hE : addE mk most (Zl Z) p b = match findE (Zl Z) (p, q.id) with
      | none =>
        if most ≤ (Zl Z).length then ((0, false, 120), Zl Z)
        else if (missL (List.replicate q.cnt.toNat none)).length = 1 ∧ mk (textL ((List.replicate q.cnt.toNat none).set q.idx.toNat (some q.cont))) ≠ q.sum then ((0, false, 101), Zl Z)
        else ((q.id, decide ((missL (List.replicate q.cnt.toNat none)).length = 1), 0), Zl Z ++ [⟨p, q.id, q.sum, (List.replicate q.cnt.toNat none).set q.idx.toNat (some q.cont)⟩])
      | some e =>
        if (e.parts.length : Int) ≠ q.cnt ∨ e.sum ≠ q.sum then ((0, false, 260), Zl Z)
        else if e.parts[q.idx.toNat]? ≠ some none then ((0, false, 151), Zl Z)
        else if (missL e.parts).length = 1 ∧ mk (textL (e.parts.set q.idx.toNat (some q.cont))) ≠ e.sum then ((0, false, 101), Zl Z)
        else ((q.id, decide ((missL e.parts).length = 1), 0), setE (Zl Z) (p, q.id) q.idx.toNat q.cont) := by
      unfold addE
      rw [if_neg (by simp [he]), hq]
    rw [findE_Zl] at hE
    have lenZ : (Zl Z).length = Z.length := by simp [Zl]
    cases hz : findZ Z (p, q.id) with
    | none =>
      rw [hz] at hE
      simp only [Option.map_none] at hE
      rw [lenZ] at hE
      have newly : ∀ (wh : Bool) (e : Ending) (w' : World), (e = .returned (.tuple #[.int .u32 q.id, .bool wh, .int .i64 0]) ∧ ∃ pb ab, w.heap.size ≤ ab ∧ TRz w' (Gn G w ab) t most B (Z ++ [⟨⟨p, q.id, q.sum, (List.replicate q.cnt.toNat none).set q.idx.toNat (some q.cont)⟩, pb, ab⟩]) ∧ Kp [B] w w') →
          e = .returned (.tuple #[.int .u32 q.id, .bool wh, .int .i64 0]) ∧ ∃ L, TR w' (Fn F w w') t most (Zl Z ++ [⟨p, q.id, q.sum, (List.replicate q.cnt.toNat none).set q.idx.toNat (some q.cont)⟩]) ∧ (∀ b ∈ L, F b) ∧ Kp L w w' := by
        rintro wh e w' ⟨h1, pb, ab, h2, h3, h4⟩
        refine ⟨h1, [B], ⟨fun b hb => ?_, _, B, _, h3.cut, Zl_app _ _, .inl hFB, fun b hb => ?_, fun z hz => ?_⟩, fun b hb => by rw [List.mem_singleton] at hb; rw [hb]; exact hFB, h4⟩
        · rcases hb with hb | hb
          · exact Nat.lt_of_lt_of_le (h.lt b hb) h4.size
          · exact hb.2
        · rcases hb with ⟨hb | hb, hlt⟩
          · exact .inl (hGF b hb)
          · exact .inr ⟨hb.1, hlt⟩
        · have hzp := (h3.p z hz).lt
          rcases List.mem_append.1 hz with hz | hz
          · exact .inl (hFa z hz)
          · rw [List.mem_singleton] at hz
            subst hz
            exact .inr ⟨h2, hzp⟩
      by_cases hf : most ≤ (Z.length : Int)
      · rw [if_pos hf] at hE
        rw [hE]
        exact (add_full mk w G t most B Z p v q hA hz hf).mono fun e w' ⟨h1, h2⟩ => ⟨h1, same w' h2⟩
      · rw [if_neg hf] at hE
        by_cases hw : (missL (List.replicate q.cnt.toNat none)).length = 1
        · by_cases hs : mk (textL ((List.replicate q.cnt.toNat none).set q.idx.toNat (some q.cont))) = q.sum
          · rw [if_neg (fun hh => hh.2 hs), decide_eq_true hw] at hE
            rw [hE]
            exact (add_new_whole mk w G t most B Z p v q hA hz (by omega) hw hs).mono fun e w' hh => newly true e w' hh
          · rw [if_pos ⟨hw, hs⟩] at hE
            rw [hE]
            exact (add_new_sum mk w G t most B Z p v q hA hz (by omega) hw hs).mono fun e w' ⟨h1, h2⟩ => ⟨h1, same w' h2⟩
        · rw [if_neg (fun hh => hw hh.1), decide_eq_false hw] at hE
          rw [hE]
          exact (add_new_part mk w G t most B Z p v q hA hz (by omega) hw).mono fun e w' hh => newly false e w' hh
    | some z =>
      rw [hz] at hE
      simp only [Option.map_some] at hE
      have hzm := (findZ_mem hz).1
      have older : ∀ (wh : Bool) (e : Ending) (w' : World), (e = .returned (.tuple #[.int .u32 q.id, .bool wh, .int .i64 0]) ∧ TRz w' (Gn G w z.ab) t most B (Zset Z (p, q.id) q.idx.toNat q.cont) ∧ Kp [z.ab, B] w w') →
          e = .returned (.tuple #[.int .u32 q.id, .bool wh, .int .i64 0]) ∧ ∃ L, TR w' (Fn F w w') t most (setE (Zl Z) (p, q.id) q.idx.toNat q.cont) ∧ (∀ b ∈ L, F b) ∧ Kp L w w' := by
        rintro wh e w' ⟨h1, h3, h4⟩
        refine ⟨h1, [z.ab, B], ⟨fun b hb => ?_, _, B, _, h3.cut, Zl_set _ _ _ _, .inl hFB, fun b hb => ?_, fun z' hz' => ?_⟩, fun b hb => ?_, h4⟩
        · rcases hb with hb | hb
          · exact Nat.lt_of_lt_of_le (h.lt b hb) h4.size
          · exact hb.2
        · rcases hb with ⟨hb | hb, hlt⟩
          · exact .inl (hGF b hb)
          · exact .inr ⟨hb.1, hlt⟩
        · obtain ⟨z0, h0, e0⟩ := Zset_ab hz'
          rw [e0]
          exact .inl (hFa z0 h0)
        · rcases List.mem_cons.1 hb with hb | hb
          · rw [hb]; exact hFa z hzm
          · rw [List.mem_singleton] at hb; rw [hb]; exact hFB
      by_cases hc : (z.e.parts.length : Int) = q.cnt
      · by_cases hsm : z.e.sum = q.sum
        · rw [if_neg (by rintro (hh | hh); exact hh hc; exact hh hsm)] at hE
          by_cases hix : z.e.parts[q.idx.toNat]? = some none
          · rw [if_neg (fun hh => hh hix)] at hE
            by_cases hw : (missL z.e.parts).length = 1
            · by_cases hs : mk (textL (z.e.parts.set q.idx.toNat (some q.cont))) = z.e.sum
              · rw [if_neg (fun hh => hh.2 hs), decide_eq_true hw] at hE
                rw [hE]
                exact (add_old_whole mk w G t most B Z p v q hA z hz hc hsm hix hw hs).mono fun e w' hh => older true e w' hh
              · rw [if_pos ⟨hw, hs⟩] at hE
                rw [hE]
                exact (add_old_sum mk w G t most B Z p v q hA z hz hc hsm hix hw hs).mono fun e w' ⟨h1, h2⟩ => ⟨h1, same w' h2⟩
            · rw [if_neg (fun hh => hw hh.1), decide_eq_false hw] at hE
              rw [hE]
              exact (add_old_part mk w G t most B Z p v q hA z hz hc hsm hix hw).mono fun e w' hh => older false e w' hh
          · rw [if_pos hix] at hE
            rw [hE]
            obtain ⟨c, hc2⟩ := not_full (by have := hqk.i0; have := hqk.i1; omega) hix
            exact (add_twice mk w G t most B Z p v q hA z hz hc hsm c hc2).mono fun e w' ⟨h1, h2⟩ => ⟨h1, same w' h2⟩
        · rw [if_pos (.inr hsm)] at hE
          rw [hE]
          exact (add_osum mk w G t most B Z p v q hA z hz hc hsm).mono fun e w' ⟨h1, h2⟩ => ⟨h1, same w' h2⟩
      · rw [if_pos (.inl hc)] at hE
        rw [hE]
        exact (add_count mk w G t most B Z p v q hA z hz hc).mono fun e w' ⟨h1, h2⟩ => ⟨h1, same w' h2⟩
end Go.Proofs.YtkceaepbjdfccaaDoor
