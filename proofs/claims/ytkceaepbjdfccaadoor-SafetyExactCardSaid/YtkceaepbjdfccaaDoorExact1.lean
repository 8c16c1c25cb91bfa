/-
lethelaw25.plays.
-/
import Derived.Test.YtkceaepbjdfccaaDoorRef12
namespace Go.Proofs.YtkceaepbjdfccaaDoor
open Go.RowKit
/-- one call of a script -/
structure Sop where
  kind : Int
  a : ByteArray
  b : ByteArray
  x : List Int
  y : List Int
  t : ByteArray
structure Sop.ok (o : Sop) : Prop where
  hx : o.x.length = 32
  hy : o.y.length = 32
  x8 : ∀ z ∈ o.x, B8 z
  y8 : ∀ z ∈ o.y, B8 z
  ha : o.a.size ≤ 140737488351232
  hb : o.b.size ≤ 140737488351232
  ht : o.t.size ≤ 140737488351232
def Sop.cl (o : Sop) : List Value := [.int .i64 o.kind, .string o.a, .string o.b] ++ (iv o.x ++ (iv o.y ++ [.string o.t]))
theorem Sop.cl_len {o : Sop} (h : o.ok) : o.cl.length = 68 := by simp [Sop.cl, iv_length, h.hx, h.hy]
theorem Sop.cl_one (o : Sop) : ∀ v ∈ o.cl, v.oneCell' = true := by
  intro v hv
  simp only [Sop.cl, List.mem_append, List.mem_cons, List.not_mem_nil, or_false] at hv
  rcases hv with (rfl | rfl | rfl) | h | h | rfl
  · rfl
  · rfl
  · rfl
  · exact iv_one _ _ h
  · exact iv_one _ _ h
  · rfl
/-- a call lies in block g -/
structure SopAt (w : World) (g : Nat) (o : Sop) : Prop where
  hp : w.heap[g]? = some (.cells o.cl.toArray 35 (0, 0))
  ok : o.ok
theorem SopAt.kp {w w' : World} {g : Nat} {o : Sop} (h : SopAt w g o) (k : Kp [] w w') : SopAt w' g o := ⟨k.heap h.hp (by simp), h.ok⟩
theorem SopAt.cell {w : World} {g : Nat} {o : Sop} (h : SopAt w g o) (i : Nat) (v : Value) (hv : o.cl[i]? = some v) : w.cell? ⟨g, i, none⟩ = some v := by
  rw [cell_of_row w g i _ _ _ h.hp, List.getElem?_toArray]; exact hv
theorem SopAt.rx {w : World} {g : Nat} {o : Sop} (h : SopAt w g o) : w.rangeAt g 3 (iv o.x) := by
  intro j v hv
  have hj := (List.getElem?_eq_some_iff.1 hv).1
  refine h.cell (3 + j) v ?_
  unfold Sop.cl
  rw [List.getElem?_append_right (by simp), List.getElem?_append_left (by simpa using hj)]
  simpa using hv
theorem SopAt.ry {w : World} {g : Nat} {o : Sop} (h : SopAt w g o) : w.rangeAt g 35 (iv o.y) := by
  intro j v hv
  have hj := (List.getElem?_eq_some_iff.1 hv).1
  have hx := h.ok.hx
  refine h.cell (35 + j) v ?_
  unfold Sop.cl
  rw [List.getElem?_append_right (by simp; omega), List.getElem?_append_right (by simp [iv_length, hx]; omega), List.getElem?_append_left (by simp [iv_length] at hj ⊢; omega)]
  rw [← hv]
  congr 1
  simp [iv_length, hx]
  omega
theorem SopAt.ct {w : World} {g : Nat} {o : Sop} (h : SopAt w g o) : w.cell? ⟨g, 67, none⟩ = some (.string o.t) := by
  have hx := h.ok.hx
  have hy := h.ok.hy
  refine h.cell 67 _ ?_
  unfold Sop.cl
  rw [List.getElem?_append_right (by simp), List.getElem?_append_right (by simp [iv_length, hx]), List.getElem?_append_right (by simp [iv_length, hx, hy])]
  simp [iv_length, hx, hy]
set_option maxRecDepth 100000 in
set_option maxHeartbeats 1000000 in
theorem plays_any (kk bg : List Int) (o : Sop) (ho : o.ok) (w : World) (hT : Tabs kk bg w) (hR : Tabr kk bg w) :
    Calls Tryd.prog 15 #[.agg o.cl.toArray] w fun e w' => e = .returned (.bool true) ∧ Kp [] w w' := by
  have HT := Lib.hid hT
  have HR := Lib.hid hR
  have HO := Lib.hid ho
  obtain ⟨w0, hw0⟩ : ∃ w0, w0 = w.alloc (.cells o.cl.toArray 35) := ⟨_, rfl⟩
  have H0 : Hid (Kp [] w w0 ∧ SopAt w0 w.heap.size o) := Lib.hid (by rw [hw0]; exact ⟨(Kp.refl [] w).alloc _, heap_alloc_new w _, ho⟩)
  have HH1 := Lib.hid (fun W hW => half_any kk bg o.a o.x ho.hx W hW ho.ha)
  have HH2 := Lib.hid (fun W hW => rhalf_any kk bg o.a o.x ho.hx ho.x8 W hW ho.ha)
  have HN1 := Lib.hid (fun W hW => number_any kk bg o.a o.x o.b o.y ho.hx ho.hy W hW ho.ha ho.hb)
  have HN2 := Lib.hid (fun W hW => rnumber_any kk bg o.a o.x o.b o.y ho.hx ho.hy ho.x8 ho.y8 W hW ho.ha ho.hb)
  have HR1 := Lib.hid (fun W => read_any o.t W ho.ht)
  have HR2 := Lib.hid (fun W => rread_any o.t W ho.ht)
  have HM1 := Lib.hid (fun W hW => match_any kk bg o.t o.a o.x o.b o.y ho.hx ho.hy W hW ho.ht ho.ha ho.hb)
  have HM2 := Lib.hid (fun W hW => rmatch_any kk bg o.t o.a o.x o.b o.y ho.hx ho.hy ho.x8 ho.y8 W hW ho.ht ho.ha ho.hb)
  generalize strOf (halfS kk bg o.a o.x) = S1 at *
  generalize nameErr o.a.size = E1 at *
  generalize strOf (numS kk bg o.a o.x o.b o.y) = S2 at *
  generalize twoErr o.a.size o.b.size = E2 at *
  generalize strOf (rdS o.t.data.toList) = S3 at *
  generalize rdErr o.t.data.toList = E3 at *
  generalize mtB kk bg o.t o.a o.x o.b o.y = B4 at *
  generalize mtErr o.t.data.toList o.a.size o.b.size = E4 at *
  have HC : Hid (∀ W, Kp [] w0 W → W.cell? ⟨w.heap.size, 0, none⟩ = some (.int .i64 o.kind) ∧ W.cell? ⟨w.heap.size, 1, none⟩ = some (.string o.a) ∧ W.cell? ⟨w.heap.size, 2, none⟩ = some (.string o.b) ∧ W.cell? ⟨w.heap.size, 67, none⟩ = some (.string o.t)) := Lib.hid (fun W hW => by
    have h := H0.out.2.kp hW
    exact ⟨h.cell 0 _ rfl, h.cell 1 _ rfl, h.cell 2 _ rfl, h.ct⟩)
  clear hT hR ho
  have H00 := Lib.hid (Kp.refl [] w0)
  obtain ⟨c0, c1, c2, c3⟩ := HC.out w0 H00.out
  have hc0 : o.cl[0]? = some (.int .i64 o.kind) := rfl
  go_enter Tryd.func15, Tryd.ntmps15
  go_upto_block 0 with fail
  rw [← hw0]
  clear hw0 hc0
  generalize hK : w.heap.size = K at *
  have HK := Lib.hid hK
  clear hK
  generalize hoa : o.a = a at *
  generalize hob : o.b = b at *
  generalize hot : o.t = t at *
  generalize hok : o.kind = kind at *
  clear hoa hob hot hok
  by_cases k1 : kind = 1
  · subst k1
    go_wp2_with (first
      | (refine wpList_load_mid (by rfl) 23 (.tmp 26) (by rfl) K 3 (by rfl) (iv o.x) _ H0.out.2.rx Tryd.underlying23 rfl (by rw [iv_length, HO.out.hx]; kernel_rfl) ?_)
      | (refine wpList_load_mid (by rfl) 23 (.tmp 34) (by rfl) K 3 (by rfl) (iv o.x) _ (H0.out.2.kp HK1.out).rx Tryd.underlying23 rfl (by rw [iv_length, HO.out.hx]; kernel_rfl) ?_)
      | (go_at_call 14; go_must (refine (HH1.out _ (HT.out.kp H0.out.1)).mono ?_; rintro e w1 ⟨rfl, hk1⟩; obtain ⟨d0, d1, d2, d3⟩ := HC.out w1 hk1; have HK1 := Lib.hid hk1; clear hk1))
      | (go_at_call 38; go_must (refine (HH2.out _ (HR.out.kp (H0.out.1.trans0 HK1.out))).mono ?_; rintro e w2 ⟨rfl, hk2⟩; have HK2 := Lib.hid (H0.out.1.trans0 (HK1.out.trans0 hk2)); clear hk2)))
    go_ret
    exact ⟨rfl, HK2.out⟩
  · have n1 : (kind == 1) = false := by rw [beq_eq_false_iff_ne]; exact k1
    clear k1
    by_cases k2 : kind = 2
    · subst k2
      go_wp2_with (first
        | (refine wpList_load_mid (by rfl) 23 (.tmp 52) (by rfl) K 3 (by rfl) (iv o.x) _ H0.out.2.rx Tryd.underlying23 rfl (by rw [iv_length, HO.out.hx]; kernel_rfl) ?_)
        | (refine wpList_load_mid (by rfl) 23 (.tmp 56) (by rfl) K 35 (by rfl) (iv o.y) _ H0.out.2.ry Tryd.underlying23 rfl (by rw [iv_length, HO.out.hy]; kernel_rfl) ?_)
        | (refine wpList_load_mid (by rfl) 23 (.tmp 64) (by rfl) K 3 (by rfl) (iv o.x) _ (H0.out.2.kp HK1.out).rx Tryd.underlying23 rfl (by rw [iv_length, HO.out.hx]; kernel_rfl) ?_)
        | (refine wpList_load_mid (by rfl) 23 (.tmp 68) (by rfl) K 35 (by rfl) (iv o.y) _ (H0.out.2.kp HK1.out).ry Tryd.underlying23 rfl (by rw [iv_length, HO.out.hy]; kernel_rfl) ?_)
        | (go_at_call 16; go_must (refine (HN1.out _ (HT.out.kp H0.out.1)).mono ?_; rintro e w1 ⟨rfl, hk1⟩; obtain ⟨d0, d1, d2, d3⟩ := HC.out w1 hk1; have HK1 := Lib.hid hk1; clear hk1))
        | (go_at_call 39; go_must (refine (HN2.out _ (HR.out.kp (H0.out.1.trans0 HK1.out))).mono ?_; rintro e w2 ⟨rfl, hk2⟩; have HK2 := Lib.hid (H0.out.1.trans0 (HK1.out.trans0 hk2)); clear hk2)))
      go_ret
      exact ⟨rfl, HK2.out⟩
    · have n2 : (kind == 2) = false := by rw [beq_eq_false_iff_ne]; exact k2
      clear k2
      by_cases k3 : kind = 3
      · subst k3
        go_wp2_with (first
          | (go_at_call 18; go_must (refine (HR1.out _ ).mono ?_; rintro e w1 ⟨rfl, hk1⟩; obtain ⟨d0, d1, d2, d3⟩ := HC.out w1 hk1; have HK1 := Lib.hid hk1; clear hk1))
          | (go_at_call 40; go_must (refine (HR2.out _ ).mono ?_; rintro e w2 ⟨rfl, hk2⟩; have HK2 := Lib.hid (H0.out.1.trans0 (HK1.out.trans0 hk2)); clear hk2)))
        go_ret
        exact ⟨rfl, HK2.out⟩
      · have n3 : (kind == 3) = false := by rw [beq_eq_false_iff_ne]; exact k3
        clear k3
        by_cases k4 : kind = 4
        · subst k4
          go_wp2_with (first
            | (refine wpList_load_mid (by rfl) 23 (.tmp 110) (by rfl) K 3 (by rfl) (iv o.x) _ H0.out.2.rx Tryd.underlying23 rfl (by rw [iv_length, HO.out.hx]; kernel_rfl) ?_)
            | (refine wpList_load_mid (by rfl) 23 (.tmp 114) (by rfl) K 35 (by rfl) (iv o.y) _ H0.out.2.ry Tryd.underlying23 rfl (by rw [iv_length, HO.out.hy]; kernel_rfl) ?_)
            | (refine wpList_load_mid (by rfl) 23 (.tmp 124) (by rfl) K 3 (by rfl) (iv o.x) _ (H0.out.2.kp HK1.out).rx Tryd.underlying23 rfl (by rw [iv_length, HO.out.hx]; kernel_rfl) ?_)
            | (refine wpList_load_mid (by rfl) 23 (.tmp 128) (by rfl) K 35 (by rfl) (iv o.y) _ (H0.out.2.kp HK1.out).ry Tryd.underlying23 rfl (by rw [iv_length, HO.out.hy]; kernel_rfl) ?_)
            | (go_at_call 19; go_must (refine (HM1.out _ (HT.out.kp H0.out.1)).mono ?_; rintro e w1 ⟨rfl, hk1⟩; obtain ⟨d0, d1, d2, d3⟩ := HC.out w1 hk1; have HK1 := Lib.hid hk1; clear hk1))
            | (go_at_call 41; go_must (refine (HM2.out _ (HR.out.kp (H0.out.1.trans0 HK1.out))).mono ?_; rintro e w2 ⟨rfl, hk2⟩; have HK2 := Lib.hid (H0.out.1.trans0 (HK1.out.trans0 hk2)); clear hk2)))
          go_ret
          exact ⟨rfl, HK2.out⟩
        · have n4 : (kind == 4) = false := by rw [beq_eq_false_iff_ne]; exact k4
          clear k4
          go_wp2_with fail
          go_ret
          exact ⟨rfl, H0.out.1⟩
end Go.Proofs.YtkceaepbjdfccaaDoor
