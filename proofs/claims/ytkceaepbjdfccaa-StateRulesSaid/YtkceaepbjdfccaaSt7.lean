/-
lethelaw18.may.
-/
import Derived.Test.YtkceaepbjdfccaaSt6
import Derived.Test.YtkceaepbjdfccaaSt5
namespace Go.Proofs.Ytkceaepbjdfccaa
open Go.RowKit
/-- a state in K, a box for the answer behind it -/
structure MM (w W : World) (K : Nat) (S : St) : Prop where
  k : Kp [] w W
  hK : w.heap.size ≤ K
  s : StAt W K S
  box : ∃ old, old.size = 343 ∧ W.heap[K + 1]? = some (.cells old 45 (0, 0))
theorem MM.put {w W W' : World} {K : Nat} {S S' : St} (h : MM w W K S) (k : Kp [K] W W') (s : StAt W' K S') : MM w W' K S' := by
  obtain ⟨old, h1, h2⟩ := h.box
  exact ⟨h.k.trans k (fun m hm => by rw [List.mem_singleton] at hm; subst hm; exact .inr h.hK), h.hK, s, old, h1, k.heap h2 (by simp)⟩
theorem kp_one (W : World) (K j : Nat) (v : Value) : Kp [K] W (W.setCell ⟨K, j, none⟩ v) := (Kp.refl _ W).setCell (.inl (by simp)) _
section
variable {w W : World} {K : Nat} {S : St}
theorem MM.own (h : MM w W K S) (x : Int) (hx : W32 x) : MM w (W.setCell ⟨K, 208, none⟩ (.int .u32 x)) K { S with own := x } := h.put (kp_one _ _ _ _) (h.s.setOwn x hx)
theorem MM.turns (h : MM w W K S) (x : Int) (hx : W32 x) : MM w (W.setCell ⟨K, 209, none⟩ (.int .u32 x)) K { S with turns := x } := h.put (kp_one _ _ _ _) (h.s.setTurns x hx)
theorem MM.sent (h : MM w W K S) (x : Int) (hx : W32 x) : MM w (W.setCell ⟨K, 210, none⟩ (.int .u32 x)) K { S with sent := x } := h.put (kp_one _ _ _ _) (h.s.setSent x hx)
theorem MM.got (h : MM w W K S) (x : Int) (hx : W32 x) : MM w (W.setCell ⟨K, 211, none⟩ (.int .u32 x)) K { S with got := x } := h.put (kp_one _ _ _ _) (h.s.setGot x hx)
theorem MM.prev (h : MM w W K S) (x : Int) (hx : W32 x) : MM w (W.setCell ⟨K, 212, none⟩ (.int .u32 x)) K { S with prev := x } := h.put (kp_one _ _ _ _) (h.s.setPrev x hx)
theorem MM.ser (h : MM w W K S) (x : Int) (hx : W32 x) : MM w (W.setCell ⟨K, 213, none⟩ (.int .u32 x)) K { S with ser := x } := h.put (kp_one _ _ _ _) (h.s.setSer x hx)
theorem MM.sk (h : MM w W K S) (l : List Int) (hl : l.length = 32) : MM w (W.setCells K 144 (iv l)) K { S with sk := l } := h.put (kp_setCells _ _ _ _) (h.s.setSk l hl)
theorem MM.rk (h : MM w W K S) (l : List Int) (hl : l.length = 32) : MM w (W.setCells K 176 (iv l)) K { S with rk := l } := h.put (kp_setCells _ _ _ _) (h.s.setRk l hl)
theorem MM.hello (h : MM w W K S) (i o : List Int) (p : Int) (hi : i.length = 32) (ho : o.length = 32) : MM w (W.setCells K 214 (hel i o p)) K { S with hid := i, ho := o, hp := p } := h.put (kp_setCells _ _ _ _) (h.s.setHello i o p hi ho)
theorem MM.hid (h : MM w W K S) (i : List Int) (hi : i.length = 32) : MM w (W.setCells K 214 (iv i)) K { S with hid := i } := h.put (kp_setCells _ _ _ _) (h.s.setHid i hi)
theorem MM.bind (h : MM w W K S) (k : Nat) (hk : k < 64) (x : Int) (hx : B8 x) : MM w (W.setCell ⟨K, 279 + k, none⟩ (.int .u8 x)) K { S with bind := S.bind.set k x } := h.put (kp_one _ _ _ _) (h.s.setBind k hk x hx)
theorem MM.there (h : MM w W K S) (o n : Nat) (hn : o + n ≤ 343) : W.there K o n := cells_there h.s.hp o n (by rw [St.cl_len h.s.ok]; exact hn)
end
theorem one_iv (l : List Int) : (iv l).toArray.all (·.oneCell') = true := all_oneCell_toArray (iv_one l)
theorem one_hel (i o : List Int) (p : Int) : (hel i o p).toArray.all (·.oneCell') = true := all_oneCell_toArray (fun v hv => by
  simp only [hel, List.mem_append, List.mem_singleton] at hv
  rcases hv with h | h | rfl
  · exact iv_one _ _ h
  · exact iv_one _ _ h
  · rfl)
theorem mm_start (w : World) (S : St) (hS : S.ok) (Z : Array Value) (hZ : Z.size = 343) : MM w ((w.alloc (.cells S.cl.toArray 45)).alloc (.cells Z 45)) w.heap.size S :=
  ⟨((Kp.refl [] w).alloc _).alloc _, Nat.le_refl _, ⟨heap_alloc2_old w _ _, hS⟩, Z, hZ, heap_alloc2_new w _ _⟩
/-- Check takes it -/
structure Fine (S : St) : Prop where
  c : ∀ w, Calls Try.prog 50 #[.agg S.cl.toArray] w fun e w' => e = .returned (.bool true) ∧ Kp [] w w'
  g : S.grt = true
theorem Fine.check {S : St} (h : Fine S) (hS : S.ok) (w : World) : Calls Try.prog 19 #[.agg S.cl.toArray] w fun e w' => e = .returned (.int .i64 0) ∧ Kp [] w w' := by
  have e : S.err true = 0 := by unfold St.err; rw [h.g]; rfl
  have := check_of S hS true h.c w
  rw [e] at this
  exact this
theorem grt_none {S : St} (h : S.noHello) : S.grt = true := by unfold St.grt; rw [decide_eq_true h]; rfl
/-- Check takes what may makes, a path a lemma -/
theorem fine_00 (S : St) (hS : S.ok) (ho : S.own = 0) (ht : S.turns = 0) (hr : S.rk = z32) (hg : S.got = 0) (hs : S.sk = z32) (h1 : S.sent = 0) (h2 : S.prev = 0) (h3 : S.ser = 0) (_ : S.turns = 0) (hh : S.noHello) : Fine S :=
  ⟨fun w => cnt_x0ht S hS w (by rw [ho, ht]; rfl) (by rw [ht]; rfl) (by rw [hr]; rfl) (by rw [hg]; rfl) (by rw [ho]; rfl) (by rw [hs]; rfl) (by rw [h1]; rfl) (by rw [h2]; rfl) (by rw [h3]; rfl) (by rw [hh.1, hh.2.1, hh.2.2]; rfl), grt_none hh⟩
theorem gap_small {a b : Int} (h1 : a - b ≤ 1) (h2 : b - a ≤ 1) : decide (1 < gap a b) = false := by
  rw [decide_eq_false_iff_not]; unfold gap; omega
theorem gap_big {a b : Int} (h : 1 < a - b ∨ 1 < b - a) : decide (1 < gap a b) = true := by
  rw [decide_eq_true_iff]; unfold gap; omega
theorem fine_01 (S : St) (hS : S.ok) (ho : S.own = 0) (ht : S.turns ≠ 0) (ht1 : S.turns ≤ 1) (hs : S.sk = z32) (h1 : S.sent = 0) (h2 : S.prev = 0) (h3 : S.ser = 0) (hh : S.noHello) : Fine S :=
  ⟨fun w => cnt_y0ht S hS w (gap_small (by have := hS.turns.1; omega) (by omega)) (by simpa using ht) (by rw [ho]; rfl) (by rw [hs]; rfl) (by rw [h1]; rfl) (by rw [h2]; rfl) (by rw [h3]; rfl) (by rw [hh.1, hh.2.1, hh.2.2]; rfl), grt_none hh⟩
theorem fine_10 (S : St) (hS : S.ok) (ho : S.own = 1) (ht : S.turns = 0) (hr : S.rk = z32) (hg : S.got = 0) (h2 : S.prev = 0) (h3 : S.ser = S.sent) (hG : S.grt = true) : Fine S :=
  ⟨fun w => cnt_x1t S hS w (gap_small (by omega) (by omega)) (by rw [ht]; rfl) (by rw [hr]; rfl) (by rw [hg]; rfl) (by rw [ho]; rfl) (by rw [ho]; rfl) (by rw [h2]; rfl) (by rw [h3]; simp), hG⟩
theorem fine_11 (S : St) (hS : S.ok) (ho : S.own = 1) (ht : S.turns ≠ 0) (ht1 : S.turns ≤ 2) (h2 : S.prev = 0) (h3 : S.ser = S.sent) (hh : S.noHello) : Fine S :=
  ⟨fun w => cnt_y1t S hS w (gap_small (by have := hS.turns.1; omega) (by omega)) (by simpa using ht) (by rw [ho]; rfl) (by rw [ho]; rfl) (by rw [h2]; rfl) (by rw [h3]; simp), grt_none hh⟩
theorem fine_21 (S : St) (hS : S.ok) (ho : 2 ≤ S.own) (h1 : S.own - S.turns ≤ 1) (h2 : S.turns - S.own ≤ 1) (ht : S.turns ≠ 0) (h3 : S.sent ≤ S.ser) (h4 : S.prev ≤ S.ser - S.sent) (hh : S.noHello) : Fine S :=
  ⟨fun w => cnt_y2t S hS w (gap_small h1 h2) (by simpa using ht) (by rw [beq_eq_false_iff_ne]; omega) (by rw [beq_eq_false_iff_ne]; omega) (decide_eq_true h3) (IntWalk.i64_in _ (by have a := hS.ser; have b := hS.sent; unfold W32 at a b; omega)) (decide_eq_true h4), grt_none hh⟩
theorem or1_all : ∀ n : Fin 256, 0 ≤ bits .or .u8 (n.val : Int) 1 ∧ bits .or .u8 (n.val : Int) 1 < 256 ∧ bits .or .u8 (n.val : Int) 1 ≠ 0 := by decide +kernel
theorem or1 {x : Int} (h : B8 x) : B8 (bits .or .u8 x 1) ∧ bits .or .u8 x 1 ≠ 0 := by
  obtain ⟨n, rfl⟩ := Int.eq_ofNat_of_zero_le h.1
  have hn : n < 256 := by have := h.2; omega
  have := or1_all ⟨n, hn⟩
  exact ⟨⟨this.1, this.2.1⟩, this.2.2⟩
theorem b8_at {l : List Int} (h : ∀ x ∈ l, B8 x) (i : Nat) : B8 (l.getD i 0) := by
  rw [List.getD_eq_getElem?_getD]
  cases e : l[i]? with
  | none => exact ⟨by decide, by decide⟩
  | some x => exact h x (List.mem_of_getElem? e)
theorem take_ne (l : List Int) (y : Int) (hl : l.length = 64) (hy : y ≠ 0) : (l.set 7 y).take 32 ≠ z32 := fun h => by
  have e := congrArg (fun m => m[7]?) h
  simp only [List.getElem?_take, List.getElem?_set, hl] at e
  rw [if_pos (by decide), if_pos trivial, if_pos (by decide)] at e
  exact hy (Option.some.inj e)
theorem grt_new (S : St) (ht : S.turns = 0) (hf : S.hid = S.bind.take 32) (hz : S.hid ≠ z32) : S.grt = true := by
  unfold St.grt
  rw [decide_eq_true hz, decide_eq_true ht, decide_eq_true hf]
  simp
/-- what may makes -/
def Mayd (w : World) (e : Ending) (w' : World) : Prop := ∃ S' : St, e = .returned (.agg S'.cl.toArray) ∧ S'.ok ∧ S'.own ≤ 3 ∧ S'.turns ≤ 4 ∧ Fine S' ∧ Kp [] w w'
set_option maxRecDepth 100000 in
set_option maxHeartbeats 2000000 in
theorem may_00 (S : St) (hS : S.ok) (w : World) (ho : S.own % 4 = 0) (ht : S.turns % 4 = 0) : Calls Try.prog 18 #[.agg S.cl.toArray, .bool true] w (Mayd w) := by
  have HO := Lib.hid hS
  obtain ⟨w0, hw0⟩ : ∃ w0, w0 = (w.alloc (.cells S.cl.toArray 45)).alloc (.cells Try.zeroCells45 45) := ⟨_, rfl⟩
  have H0 : Hid (MM w w0 w.heap.size S) := Lib.hid (by rw [hw0]; exact mm_start w S hS _ (by kernel_rfl))
  have ho4 : S.own.tmod 4 = 0 := by rw [Int.tmod_eq_emod_of_nonneg hS.own.1]; exact ho
  have ht4 : S.turns.tmod 4 = 0 := by rw [Int.tmod_eq_emod_of_nonneg hS.turns.1]; exact ht
  clear ho ht
  have c208 : w0.cell? ⟨w.heap.size, 208, none⟩ = some (.int .u32 S.own) := H0.out.s.own
  have f208 : w0.frozen? ⟨w.heap.size, 208, none⟩ = false := H0.out.s.free 208
  have c209 : w0.cell? ⟨w.heap.size, 209, none⟩ = some (.int .u32 S.turns) := H0.out.s.turns
  have f209 : w0.frozen? ⟨w.heap.size, 209, none⟩ = false := H0.out.s.free 209
  have c210 : w0.cell? ⟨w.heap.size, 210, none⟩ = some (.int .u32 S.sent) := H0.out.s.sent
  have f210 : w0.frozen? ⟨w.heap.size, 210, none⟩ = false := H0.out.s.free 210
  have c212 : w0.cell? ⟨w.heap.size, 212, none⟩ = some (.int .u32 S.prev) := H0.out.s.prev
  have f212 : w0.frozen? ⟨w.heap.size, 212, none⟩ = false := H0.out.s.free 212
  have c213 : w0.cell? ⟨w.heap.size, 213, none⟩ = some (.int .u32 S.ser) := H0.out.s.ser
  have f213 : w0.frozen? ⟨w.heap.size, 213, none⟩ = false := H0.out.s.free 213
  have H1 : Hid (MM w ((w0.setCell ⟨w.heap.size, 208, none⟩ (.int .u32 0)).setCell ⟨w.heap.size, 209, none⟩ (.int .u32 0)) w.heap.size { S with own := 0, turns := 0 }) := Lib.hid ((H0.out.own 0 ⟨by decide, by decide⟩).turns 0 ⟨by decide, by decide⟩)
  go_enter Try.func18, Try.ntmps18
  go_wp2_with (first
    | (rw [← hw0]; clear hw0)
    | ((with_reducible refine wpList_store_mid ?p1 37 (.tmp 26) (.tmp 25) ?p2 w.heap.size 144 ((iv z32).toArray) ?p3 ?p4 ?p5 ?p6 ?p7 ?p8); (case p1 => rfl); (case p2 => rfl); (case p3 => rfl); (case p4 => rfl); (case p5 => exact H1.out.there 144 _ (by decide)); (case p6 => kernel_rfl); (case p7 => exact one_iv z32); have H2 : Hid (MM w (((w0.setCell ⟨w.heap.size, 208, none⟩ (.int .u32 0)).setCell ⟨w.heap.size, 209, none⟩ (.int .u32 0)).setCells w.heap.size 144 (iv z32)) w.heap.size { S with own := 0, turns := 0, sk := z32 }) := Lib.hid (H1.out.sk z32 rfl); change wpList _ _ _ _ _ (((w0.setCell ⟨w.heap.size, 208, none⟩ (.int .u32 0)).setCell ⟨w.heap.size, 209, none⟩ (.int .u32 0)).setCells w.heap.size 144 (iv z32)); clear c208 c209 c210 c212 c213 f208 f209 f210 f212 f213; generalize ((w0.setCell ⟨w.heap.size, 208, none⟩ (.int .u32 0)).setCell ⟨w.heap.size, 209, none⟩ (.int .u32 0)).setCells w.heap.size 144 (iv z32) = W2 at *; have e208W2 : W2.cell? ⟨w.heap.size, 208, none⟩ = some (.int .u32 0) := H2.out.s.own; have g208W2 : W2.frozen? ⟨w.heap.size, 208, none⟩ = false := H2.out.s.free 208; have e209W2 : W2.cell? ⟨w.heap.size, 209, none⟩ = some (.int .u32 0) := H2.out.s.turns; have g209W2 : W2.frozen? ⟨w.heap.size, 209, none⟩ = false := H2.out.s.free 209; have e210W2 : W2.cell? ⟨w.heap.size, 210, none⟩ = some (.int .u32 S.sent) := H2.out.s.sent; have g210W2 : W2.frozen? ⟨w.heap.size, 210, none⟩ = false := H2.out.s.free 210; have e212W2 : W2.cell? ⟨w.heap.size, 212, none⟩ = some (.int .u32 S.prev) := H2.out.s.prev; have g212W2 : W2.frozen? ⟨w.heap.size, 212, none⟩ = false := H2.out.s.free 212; have e213W2 : W2.cell? ⟨w.heap.size, 213, none⟩ = some (.int .u32 S.ser) := H2.out.s.ser; have g213W2 : W2.frozen? ⟨w.heap.size, 213, none⟩ = false := H2.out.s.free 213)
    | ((with_reducible show wpList _ _ _ ({ dst := none, op := Op.store _ (.tmp 62) (.tmp 61), type := _, pos := _, after := _, guard := _ } :: _) _ _); have H3 : Hid (MM w (((W2.setCell ⟨w.heap.size, 210, none⟩ (.int .u32 0)).setCell ⟨w.heap.size, 212, none⟩ (.int .u32 0)).setCell ⟨w.heap.size, 213, none⟩ (.int .u32 0)) w.heap.size { S with own := 0, turns := 0, sk := z32, sent := 0, prev := 0, ser := 0 }) := Lib.hid (((H2.out.sent 0 ⟨by decide, by decide⟩).prev 0 ⟨by decide, by decide⟩).ser 0 ⟨by decide, by decide⟩); (with_reducible refine wpList_store_mid ?q1 37 (.tmp 62) (.tmp 61) ?q2 w.heap.size 176 ((iv z32).toArray) ?q3 ?q4 ?q5 ?q6 ?q7 ?q8); (case q1 => rfl); (case q2 => rfl); (case q3 => rfl); (case q4 => rfl); (case q5 => exact H3.out.there 176 _ (by decide)); (case q6 => kernel_rfl); (case q7 => exact one_iv z32); have H4 : Hid (MM w ((((W2.setCell ⟨w.heap.size, 210, none⟩ (.int .u32 0)).setCell ⟨w.heap.size, 212, none⟩ (.int .u32 0)).setCell ⟨w.heap.size, 213, none⟩ (.int .u32 0)).setCells w.heap.size 176 (iv z32)) w.heap.size { S with own := 0, turns := 0, sk := z32, sent := 0, prev := 0, ser := 0, rk := z32 }) := Lib.hid (H3.out.rk z32 rfl); change wpList _ _ _ _ _ ((((W2.setCell ⟨w.heap.size, 210, none⟩ (.int .u32 0)).setCell ⟨w.heap.size, 212, none⟩ (.int .u32 0)).setCell ⟨w.heap.size, 213, none⟩ (.int .u32 0)).setCells w.heap.size 176 (iv z32)); generalize (((W2.setCell ⟨w.heap.size, 210, none⟩ (.int .u32 0)).setCell ⟨w.heap.size, 212, none⟩ (.int .u32 0)).setCell ⟨w.heap.size, 213, none⟩ (.int .u32 0)).setCells w.heap.size 176 (iv z32) = W4 at *; have e208W4 : W4.cell? ⟨w.heap.size, 208, none⟩ = some (.int .u32 0) := H4.out.s.own; have g208W4 : W4.frozen? ⟨w.heap.size, 208, none⟩ = false := H4.out.s.free 208; have e209W4 : W4.cell? ⟨w.heap.size, 209, none⟩ = some (.int .u32 0) := H4.out.s.turns; have g209W4 : W4.frozen? ⟨w.heap.size, 209, none⟩ = false := H4.out.s.free 209; have e211W4 : W4.cell? ⟨w.heap.size, 211, none⟩ = some (.int .u32 S.got) := H4.out.s.got; have g211W4 : W4.frozen? ⟨w.heap.size, 211, none⟩ = false := H4.out.s.free 211)
    | ((with_reducible show wpList _ _ _ ({ dst := none, op := Op.store _ (.tmp 77) (.tmp 76), type := _, pos := _, after := _, guard := _ } :: _) _ _); have H5 : Hid (MM w (W4.setCell ⟨w.heap.size, 211, none⟩ (.int .u32 0)) w.heap.size { S with own := 0, turns := 0, sk := z32, sent := 0, prev := 0, ser := 0, rk := z32, got := 0 }) := Lib.hid (H4.out.got 0 ⟨by decide, by decide⟩); (with_reducible refine wpList_store_mid ?r1 42 (.tmp 77) (.tmp 76) ?r2 w.heap.size 214 ((hel z32 z32 0).toArray) ?r3 ?r4 ?r5 ?r6 ?r7 ?r8); (case r1 => rfl); (case r2 => rfl); (case r3 => rfl); (case r4 => rfl); (case r5 => exact H5.out.there 214 _ (by decide)); (case r6 => kernel_rfl); (case r7 => exact one_hel z32 z32 0); have H6 : Hid (MM w ((W4.setCell ⟨w.heap.size, 211, none⟩ (.int .u32 0)).setCells w.heap.size 214 (hel z32 z32 0)) w.heap.size { S with own := 0, turns := 0, sk := z32, sent := 0, prev := 0, ser := 0, rk := z32, got := 0, hid := z32, ho := z32, hp := 0 }) := Lib.hid (H5.out.hello z32 z32 0 rfl rfl); change wpList _ _ _ _ _ ((W4.setCell ⟨w.heap.size, 211, none⟩ (.int .u32 0)).setCells w.heap.size 214 (hel z32 z32 0)); generalize (W4.setCell ⟨w.heap.size, 211, none⟩ (.int .u32 0)).setCells w.heap.size 214 (hel z32 z32 0) = W6 at *)
    | ((with_reducible refine wpList_load_row ?u1 45 (.tmp 2) ?u2 w.heap.size ?u3 45 ({ S with own := 0, turns := 0, sk := z32, sent := 0, prev := 0, ser := 0, rk := z32, got := 0, hid := z32, ho := z32, hp := 0 } : St).cl.toArray (0, 0) ?u4 ?u5 ?u6 ?u7 ?u8 ?u9); (case u1 => rfl); (case u2 => rfl); (case u3 => rfl); (case u5 => exact H6.out.s.hp); (case u6 => exact Try.underlying45); (case u7 => rfl); (case u8 => (rw [List.size_toArray, St.cl_len H6.out.s.ok]; kernel_rfl)); obtain ⟨bx, hbx⟩ := H6.out.box; have HBX := Lib.hid hbx; clear hbx)
    | ((with_reducible refine wpList_store_row ?x1 45 (.tmp 4) (.tmp 78) ?x2 (w.heap.size + 1) ({ S with own := 0, turns := 0, sk := z32, sent := 0, prev := 0, ser := 0, rk := z32, got := 0, hid := z32, ho := z32, hp := 0 } : St).cl.toArray ?x3 ?x4 45 bx ?x5 ?x6 ?x7 ?x8 ?x9); (case x1 => rfl); (case x2 => rfl); go_must ((case x3 => rfl); (case x4 => rfl); (case x5 => exact HBX.out.2); (case x6 => (rw [List.size_toArray, St.cl_len H6.out.s.ok]; kernel_rfl)); (case x7 => (rw [HBX.out.1, List.size_toArray, St.cl_len H6.out.s.ok])); (case x8 => exact all_oneCell_toArray (St.cl_one _))))
    | fail)
  have r2 := setRow_heap W6 (w.heap.size + 1) _ ({ S with own := 0, turns := 0, sk := z32, sent := 0, prev := 0, ser := 0, rk := z32, got := 0, hid := z32, ho := z32, hp := 0 } : St).cl.toArray _ _ HBX.out.2
  have r1 := H6.out.k.trans (kp_setRow1 W6 (w.heap.size + 1) ({ S with own := 0, turns := 0, sk := z32, sent := 0, prev := 0, ser := 0, rk := z32, got := 0, hid := z32, ho := z32, hp := 0 } : St).cl.toArray) (fun m hm => by rw [List.mem_singleton] at hm; subst hm; exact .inr (by omega))
  exact bodyPost_ret (results_cell_row rfl _ _ (w.heap.size + 1) 45 _ (0, 0) _ rfl r2 Try.underlying45 rfl (by rw [List.size_toArray, St.cl_len H6.out.s.ok]; kernel_rfl)) rfl ⟨_, rfl, H6.out.s.ok, (by show (0 : Int) ≤ 3; decide), (by show (0 : Int) ≤ 4; decide), fine_00 _ H6.out.s.ok rfl rfl rfl rfl rfl rfl rfl rfl rfl ⟨rfl, rfl, rfl⟩, r1⟩
set_option maxRecDepth 100000 in
set_option maxHeartbeats 2000000 in
theorem may_01 (S : St) (hS : S.ok) (w : World) (ho : S.own % 4 = 0) (ht : S.turns % 4 = 1) : Calls Try.prog 18 #[.agg S.cl.toArray, .bool true] w (Mayd w) := by
  have HO := Lib.hid hS
  obtain ⟨w0, hw0⟩ : ∃ w0, w0 = (w.alloc (.cells S.cl.toArray 45)).alloc (.cells Try.zeroCells45 45) := ⟨_, rfl⟩
  have H0 : Hid (MM w w0 w.heap.size S) := Lib.hid (by rw [hw0]; exact mm_start w S hS _ (by kernel_rfl))
  have ho4 : S.own.tmod 4 = 0 := by rw [Int.tmod_eq_emod_of_nonneg hS.own.1]; exact ho
  have ht4 : S.turns.tmod 4 = 1 := by rw [Int.tmod_eq_emod_of_nonneg hS.turns.1]; exact ht
  clear ho ht
  have c208 : w0.cell? ⟨w.heap.size, 208, none⟩ = some (.int .u32 S.own) := H0.out.s.own
  have f208 : w0.frozen? ⟨w.heap.size, 208, none⟩ = false := H0.out.s.free 208
  have c209 : w0.cell? ⟨w.heap.size, 209, none⟩ = some (.int .u32 S.turns) := H0.out.s.turns
  have f209 : w0.frozen? ⟨w.heap.size, 209, none⟩ = false := H0.out.s.free 209
  have c210 : w0.cell? ⟨w.heap.size, 210, none⟩ = some (.int .u32 S.sent) := H0.out.s.sent
  have f210 : w0.frozen? ⟨w.heap.size, 210, none⟩ = false := H0.out.s.free 210
  have c212 : w0.cell? ⟨w.heap.size, 212, none⟩ = some (.int .u32 S.prev) := H0.out.s.prev
  have f212 : w0.frozen? ⟨w.heap.size, 212, none⟩ = false := H0.out.s.free 212
  have c213 : w0.cell? ⟨w.heap.size, 213, none⟩ = some (.int .u32 S.ser) := H0.out.s.ser
  have f213 : w0.frozen? ⟨w.heap.size, 213, none⟩ = false := H0.out.s.free 213
  have H1 : Hid (MM w ((w0.setCell ⟨w.heap.size, 208, none⟩ (.int .u32 0)).setCell ⟨w.heap.size, 209, none⟩ (.int .u32 1)) w.heap.size { S with own := 0, turns := 1 }) := Lib.hid ((H0.out.own 0 ⟨by decide, by decide⟩).turns 1 ⟨by decide, by decide⟩)
  go_enter Try.func18, Try.ntmps18
  go_wp2_with (first
    | (rw [← hw0]; clear hw0)
    | ((with_reducible refine wpList_store_mid ?p1 37 (.tmp 26) (.tmp 25) ?p2 w.heap.size 144 ((iv z32).toArray) ?p3 ?p4 ?p5 ?p6 ?p7 ?p8); (case p1 => rfl); (case p2 => rfl); (case p3 => rfl); (case p4 => rfl); (case p5 => exact H1.out.there 144 _ (by decide)); (case p6 => kernel_rfl); (case p7 => exact one_iv z32); have H2 : Hid (MM w (((w0.setCell ⟨w.heap.size, 208, none⟩ (.int .u32 0)).setCell ⟨w.heap.size, 209, none⟩ (.int .u32 1)).setCells w.heap.size 144 (iv z32)) w.heap.size { S with own := 0, turns := 1, sk := z32 }) := Lib.hid (H1.out.sk z32 rfl); change wpList _ _ _ _ _ (((w0.setCell ⟨w.heap.size, 208, none⟩ (.int .u32 0)).setCell ⟨w.heap.size, 209, none⟩ (.int .u32 1)).setCells w.heap.size 144 (iv z32)); clear c208 c209 c210 c212 c213 f208 f209 f210 f212 f213; generalize ((w0.setCell ⟨w.heap.size, 208, none⟩ (.int .u32 0)).setCell ⟨w.heap.size, 209, none⟩ (.int .u32 1)).setCells w.heap.size 144 (iv z32) = W2 at *; have e208W2 : W2.cell? ⟨w.heap.size, 208, none⟩ = some (.int .u32 0) := H2.out.s.own; have g208W2 : W2.frozen? ⟨w.heap.size, 208, none⟩ = false := H2.out.s.free 208; have e209W2 : W2.cell? ⟨w.heap.size, 209, none⟩ = some (.int .u32 1) := H2.out.s.turns; have g209W2 : W2.frozen? ⟨w.heap.size, 209, none⟩ = false := H2.out.s.free 209; have e210W2 : W2.cell? ⟨w.heap.size, 210, none⟩ = some (.int .u32 S.sent) := H2.out.s.sent; have g210W2 : W2.frozen? ⟨w.heap.size, 210, none⟩ = false := H2.out.s.free 210; have e212W2 : W2.cell? ⟨w.heap.size, 212, none⟩ = some (.int .u32 S.prev) := H2.out.s.prev; have g212W2 : W2.frozen? ⟨w.heap.size, 212, none⟩ = false := H2.out.s.free 212; have e213W2 : W2.cell? ⟨w.heap.size, 213, none⟩ = some (.int .u32 S.ser) := H2.out.s.ser; have g213W2 : W2.frozen? ⟨w.heap.size, 213, none⟩ = false := H2.out.s.free 213)
    | ((with_reducible show wpList _ _ _ ({ dst := none, op := Op.store _ (.tmp 77) (.tmp 76), type := _, pos := _, after := _, guard := _ } :: _) _ _); have H5 : Hid (MM w (((W2.setCell ⟨w.heap.size, 210, none⟩ (.int .u32 0)).setCell ⟨w.heap.size, 212, none⟩ (.int .u32 0)).setCell ⟨w.heap.size, 213, none⟩ (.int .u32 0)) w.heap.size { S with own := 0, turns := 1, sk := z32, sent := 0, prev := 0, ser := 0 }) := Lib.hid (((H2.out.sent 0 ⟨by decide, by decide⟩).prev 0 ⟨by decide, by decide⟩).ser 0 ⟨by decide, by decide⟩); (with_reducible refine wpList_store_mid ?r1 42 (.tmp 77) (.tmp 76) ?r2 w.heap.size 214 ((hel z32 z32 0).toArray) ?r3 ?r4 ?r5 ?r6 ?r7 ?r8); (case r1 => rfl); (case r2 => rfl); (case r3 => rfl); (case r4 => rfl); (case r5 => exact H5.out.there 214 _ (by decide)); (case r6 => kernel_rfl); (case r7 => exact one_hel z32 z32 0); have H6 : Hid (MM w ((((W2.setCell ⟨w.heap.size, 210, none⟩ (.int .u32 0)).setCell ⟨w.heap.size, 212, none⟩ (.int .u32 0)).setCell ⟨w.heap.size, 213, none⟩ (.int .u32 0)).setCells w.heap.size 214 (hel z32 z32 0)) w.heap.size { S with own := 0, turns := 1, sk := z32, sent := 0, prev := 0, ser := 0, hid := z32, ho := z32, hp := 0 }) := Lib.hid (H5.out.hello z32 z32 0 rfl rfl); change wpList _ _ _ _ _ ((((W2.setCell ⟨w.heap.size, 210, none⟩ (.int .u32 0)).setCell ⟨w.heap.size, 212, none⟩ (.int .u32 0)).setCell ⟨w.heap.size, 213, none⟩ (.int .u32 0)).setCells w.heap.size 214 (hel z32 z32 0)); generalize (((W2.setCell ⟨w.heap.size, 210, none⟩ (.int .u32 0)).setCell ⟨w.heap.size, 212, none⟩ (.int .u32 0)).setCell ⟨w.heap.size, 213, none⟩ (.int .u32 0)).setCells w.heap.size 214 (hel z32 z32 0) = W6 at *)
    | ((with_reducible refine wpList_load_row ?u1 45 (.tmp 2) ?u2 w.heap.size ?u3 45 ({ S with own := 0, turns := 1, sk := z32, sent := 0, prev := 0, ser := 0, hid := z32, ho := z32, hp := 0 } : St).cl.toArray (0, 0) ?u4 ?u5 ?u6 ?u7 ?u8 ?u9); (case u1 => rfl); (case u2 => rfl); (case u3 => rfl); (case u5 => exact H6.out.s.hp); (case u6 => exact Try.underlying45); (case u7 => rfl); (case u8 => (rw [List.size_toArray, St.cl_len H6.out.s.ok]; kernel_rfl)); obtain ⟨bx, hbx⟩ := H6.out.box; have HBX := Lib.hid hbx; clear hbx)
    | ((with_reducible refine wpList_store_row ?x1 45 (.tmp 4) (.tmp 78) ?x2 (w.heap.size + 1) ({ S with own := 0, turns := 1, sk := z32, sent := 0, prev := 0, ser := 0, hid := z32, ho := z32, hp := 0 } : St).cl.toArray ?x3 ?x4 45 bx ?x5 ?x6 ?x7 ?x8 ?x9); (case x1 => rfl); (case x2 => rfl); go_must ((case x3 => rfl); (case x4 => rfl); (case x5 => exact HBX.out.2); (case x6 => (rw [List.size_toArray, St.cl_len H6.out.s.ok]; kernel_rfl)); (case x7 => (rw [HBX.out.1, List.size_toArray, St.cl_len H6.out.s.ok])); (case x8 => exact all_oneCell_toArray (St.cl_one _))))
    | fail)
  have r2 := setRow_heap W6 (w.heap.size + 1) _ ({ S with own := 0, turns := 1, sk := z32, sent := 0, prev := 0, ser := 0, hid := z32, ho := z32, hp := 0 } : St).cl.toArray _ _ HBX.out.2
  have r1 := H6.out.k.trans (kp_setRow1 W6 (w.heap.size + 1) ({ S with own := 0, turns := 1, sk := z32, sent := 0, prev := 0, ser := 0, hid := z32, ho := z32, hp := 0 } : St).cl.toArray) (fun m hm => by rw [List.mem_singleton] at hm; subst hm; exact .inr (by omega))
  exact bodyPost_ret (results_cell_row rfl _ _ (w.heap.size + 1) 45 _ (0, 0) _ rfl r2 Try.underlying45 rfl (by rw [List.size_toArray, St.cl_len H6.out.s.ok]; kernel_rfl)) rfl ⟨_, rfl, H6.out.s.ok, (by show (0 : Int) ≤ 3; decide), (by show (1 : Int) ≤ 4; decide), fine_01 _ H6.out.s.ok rfl (by show (1 : Int) ≠ 0; decide) (by show (1 : Int) ≤ 1; decide) rfl rfl rfl rfl ⟨rfl, rfl, rfl⟩, r1⟩
set_option maxRecDepth 100000 in
set_option maxHeartbeats 2000000 in
theorem may_02 (S : St) (hS : S.ok) (w : World) (ho : S.own % 4 = 0) (ht : S.turns % 4 = 2) : Calls Try.prog 18 #[.agg S.cl.toArray, .bool true] w (Mayd w) := by
  have HO := Lib.hid hS
  obtain ⟨w0, hw0⟩ : ∃ w0, w0 = (w.alloc (.cells S.cl.toArray 45)).alloc (.cells Try.zeroCells45 45) := ⟨_, rfl⟩
  have H0 : Hid (MM w w0 w.heap.size S) := Lib.hid (by rw [hw0]; exact mm_start w S hS _ (by kernel_rfl))
  have ho4 : S.own.tmod 4 = 0 := by rw [Int.tmod_eq_emod_of_nonneg hS.own.1]; exact ho
  have ht4 : S.turns.tmod 4 = 2 := by rw [Int.tmod_eq_emod_of_nonneg hS.turns.1]; exact ht
  clear ho ht
  have c208 : w0.cell? ⟨w.heap.size, 208, none⟩ = some (.int .u32 S.own) := H0.out.s.own
  have f208 : w0.frozen? ⟨w.heap.size, 208, none⟩ = false := H0.out.s.free 208
  have c209 : w0.cell? ⟨w.heap.size, 209, none⟩ = some (.int .u32 S.turns) := H0.out.s.turns
  have f209 : w0.frozen? ⟨w.heap.size, 209, none⟩ = false := H0.out.s.free 209
  have c210 : w0.cell? ⟨w.heap.size, 210, none⟩ = some (.int .u32 S.sent) := H0.out.s.sent
  have f210 : w0.frozen? ⟨w.heap.size, 210, none⟩ = false := H0.out.s.free 210
  have c212 : w0.cell? ⟨w.heap.size, 212, none⟩ = some (.int .u32 S.prev) := H0.out.s.prev
  have f212 : w0.frozen? ⟨w.heap.size, 212, none⟩ = false := H0.out.s.free 212
  have c213 : w0.cell? ⟨w.heap.size, 213, none⟩ = some (.int .u32 S.ser) := H0.out.s.ser
  have f213 : w0.frozen? ⟨w.heap.size, 213, none⟩ = false := H0.out.s.free 213
  have H1 : Hid (MM w ((w0.setCell ⟨w.heap.size, 208, none⟩ (.int .u32 0)).setCell ⟨w.heap.size, 209, none⟩ (.int .u32 1)) w.heap.size { S with own := 0, turns := 1 }) := Lib.hid ((H0.out.own 0 ⟨by decide, by decide⟩).turns 1 ⟨by decide, by decide⟩)
  go_enter Try.func18, Try.ntmps18
  go_wp2_with (first
    | (rw [← hw0]; clear hw0)
    | ((with_reducible refine wpList_store_mid ?p1 37 (.tmp 26) (.tmp 25) ?p2 w.heap.size 144 ((iv z32).toArray) ?p3 ?p4 ?p5 ?p6 ?p7 ?p8); (case p1 => rfl); (case p2 => rfl); (case p3 => rfl); (case p4 => rfl); (case p5 => exact H1.out.there 144 _ (by decide)); (case p6 => kernel_rfl); (case p7 => exact one_iv z32); have H2 : Hid (MM w (((w0.setCell ⟨w.heap.size, 208, none⟩ (.int .u32 0)).setCell ⟨w.heap.size, 209, none⟩ (.int .u32 1)).setCells w.heap.size 144 (iv z32)) w.heap.size { S with own := 0, turns := 1, sk := z32 }) := Lib.hid (H1.out.sk z32 rfl); change wpList _ _ _ _ _ (((w0.setCell ⟨w.heap.size, 208, none⟩ (.int .u32 0)).setCell ⟨w.heap.size, 209, none⟩ (.int .u32 1)).setCells w.heap.size 144 (iv z32)); clear c208 c209 c210 c212 c213 f208 f209 f210 f212 f213; generalize ((w0.setCell ⟨w.heap.size, 208, none⟩ (.int .u32 0)).setCell ⟨w.heap.size, 209, none⟩ (.int .u32 1)).setCells w.heap.size 144 (iv z32) = W2 at *; have e208W2 : W2.cell? ⟨w.heap.size, 208, none⟩ = some (.int .u32 0) := H2.out.s.own; have g208W2 : W2.frozen? ⟨w.heap.size, 208, none⟩ = false := H2.out.s.free 208; have e209W2 : W2.cell? ⟨w.heap.size, 209, none⟩ = some (.int .u32 1) := H2.out.s.turns; have g209W2 : W2.frozen? ⟨w.heap.size, 209, none⟩ = false := H2.out.s.free 209; have e210W2 : W2.cell? ⟨w.heap.size, 210, none⟩ = some (.int .u32 S.sent) := H2.out.s.sent; have g210W2 : W2.frozen? ⟨w.heap.size, 210, none⟩ = false := H2.out.s.free 210; have e212W2 : W2.cell? ⟨w.heap.size, 212, none⟩ = some (.int .u32 S.prev) := H2.out.s.prev; have g212W2 : W2.frozen? ⟨w.heap.size, 212, none⟩ = false := H2.out.s.free 212; have e213W2 : W2.cell? ⟨w.heap.size, 213, none⟩ = some (.int .u32 S.ser) := H2.out.s.ser; have g213W2 : W2.frozen? ⟨w.heap.size, 213, none⟩ = false := H2.out.s.free 213)
    | ((with_reducible show wpList _ _ _ ({ dst := none, op := Op.store _ (.tmp 77) (.tmp 76), type := _, pos := _, after := _, guard := _ } :: _) _ _); have H5 : Hid (MM w (((W2.setCell ⟨w.heap.size, 210, none⟩ (.int .u32 0)).setCell ⟨w.heap.size, 212, none⟩ (.int .u32 0)).setCell ⟨w.heap.size, 213, none⟩ (.int .u32 0)) w.heap.size { S with own := 0, turns := 1, sk := z32, sent := 0, prev := 0, ser := 0 }) := Lib.hid (((H2.out.sent 0 ⟨by decide, by decide⟩).prev 0 ⟨by decide, by decide⟩).ser 0 ⟨by decide, by decide⟩); (with_reducible refine wpList_store_mid ?r1 42 (.tmp 77) (.tmp 76) ?r2 w.heap.size 214 ((hel z32 z32 0).toArray) ?r3 ?r4 ?r5 ?r6 ?r7 ?r8); (case r1 => rfl); (case r2 => rfl); (case r3 => rfl); (case r4 => rfl); (case r5 => exact H5.out.there 214 _ (by decide)); (case r6 => kernel_rfl); (case r7 => exact one_hel z32 z32 0); have H6 : Hid (MM w ((((W2.setCell ⟨w.heap.size, 210, none⟩ (.int .u32 0)).setCell ⟨w.heap.size, 212, none⟩ (.int .u32 0)).setCell ⟨w.heap.size, 213, none⟩ (.int .u32 0)).setCells w.heap.size 214 (hel z32 z32 0)) w.heap.size { S with own := 0, turns := 1, sk := z32, sent := 0, prev := 0, ser := 0, hid := z32, ho := z32, hp := 0 }) := Lib.hid (H5.out.hello z32 z32 0 rfl rfl); change wpList _ _ _ _ _ ((((W2.setCell ⟨w.heap.size, 210, none⟩ (.int .u32 0)).setCell ⟨w.heap.size, 212, none⟩ (.int .u32 0)).setCell ⟨w.heap.size, 213, none⟩ (.int .u32 0)).setCells w.heap.size 214 (hel z32 z32 0)); generalize (((W2.setCell ⟨w.heap.size, 210, none⟩ (.int .u32 0)).setCell ⟨w.heap.size, 212, none⟩ (.int .u32 0)).setCell ⟨w.heap.size, 213, none⟩ (.int .u32 0)).setCells w.heap.size 214 (hel z32 z32 0) = W6 at *)
    | ((with_reducible refine wpList_load_row ?u1 45 (.tmp 2) ?u2 w.heap.size ?u3 45 ({ S with own := 0, turns := 1, sk := z32, sent := 0, prev := 0, ser := 0, hid := z32, ho := z32, hp := 0 } : St).cl.toArray (0, 0) ?u4 ?u5 ?u6 ?u7 ?u8 ?u9); (case u1 => rfl); (case u2 => rfl); (case u3 => rfl); (case u5 => exact H6.out.s.hp); (case u6 => exact Try.underlying45); (case u7 => rfl); (case u8 => (rw [List.size_toArray, St.cl_len H6.out.s.ok]; kernel_rfl)); obtain ⟨bx, hbx⟩ := H6.out.box; have HBX := Lib.hid hbx; clear hbx)
    | ((with_reducible refine wpList_store_row ?x1 45 (.tmp 4) (.tmp 78) ?x2 (w.heap.size + 1) ({ S with own := 0, turns := 1, sk := z32, sent := 0, prev := 0, ser := 0, hid := z32, ho := z32, hp := 0 } : St).cl.toArray ?x3 ?x4 45 bx ?x5 ?x6 ?x7 ?x8 ?x9); (case x1 => rfl); (case x2 => rfl); go_must ((case x3 => rfl); (case x4 => rfl); (case x5 => exact HBX.out.2); (case x6 => (rw [List.size_toArray, St.cl_len H6.out.s.ok]; kernel_rfl)); (case x7 => (rw [HBX.out.1, List.size_toArray, St.cl_len H6.out.s.ok])); (case x8 => exact all_oneCell_toArray (St.cl_one _))))
    | fail)
  have r2 := setRow_heap W6 (w.heap.size + 1) _ ({ S with own := 0, turns := 1, sk := z32, sent := 0, prev := 0, ser := 0, hid := z32, ho := z32, hp := 0 } : St).cl.toArray _ _ HBX.out.2
  have r1 := H6.out.k.trans (kp_setRow1 W6 (w.heap.size + 1) ({ S with own := 0, turns := 1, sk := z32, sent := 0, prev := 0, ser := 0, hid := z32, ho := z32, hp := 0 } : St).cl.toArray) (fun m hm => by rw [List.mem_singleton] at hm; subst hm; exact .inr (by omega))
  exact bodyPost_ret (results_cell_row rfl _ _ (w.heap.size + 1) 45 _ (0, 0) _ rfl r2 Try.underlying45 rfl (by rw [List.size_toArray, St.cl_len H6.out.s.ok]; kernel_rfl)) rfl ⟨_, rfl, H6.out.s.ok, (by show (0 : Int) ≤ 3; decide), (by show (1 : Int) ≤ 4; decide), fine_01 _ H6.out.s.ok rfl (by show (1 : Int) ≠ 0; decide) (by show (1 : Int) ≤ 1; decide) rfl rfl rfl rfl ⟨rfl, rfl, rfl⟩, r1⟩
set_option maxRecDepth 100000 in
set_option maxHeartbeats 2000000 in
theorem may_03 (S : St) (hS : S.ok) (w : World) (ho : S.own % 4 = 0) (ht : S.turns % 4 = 3) : Calls Try.prog 18 #[.agg S.cl.toArray, .bool true] w (Mayd w) := by
  have HO := Lib.hid hS
  obtain ⟨w0, hw0⟩ : ∃ w0, w0 = (w.alloc (.cells S.cl.toArray 45)).alloc (.cells Try.zeroCells45 45) := ⟨_, rfl⟩
  have H0 : Hid (MM w w0 w.heap.size S) := Lib.hid (by rw [hw0]; exact mm_start w S hS _ (by kernel_rfl))
  have ho4 : S.own.tmod 4 = 0 := by rw [Int.tmod_eq_emod_of_nonneg hS.own.1]; exact ho
  have ht4 : S.turns.tmod 4 = 3 := by rw [Int.tmod_eq_emod_of_nonneg hS.turns.1]; exact ht
  clear ho ht
  have c208 : w0.cell? ⟨w.heap.size, 208, none⟩ = some (.int .u32 S.own) := H0.out.s.own
  have f208 : w0.frozen? ⟨w.heap.size, 208, none⟩ = false := H0.out.s.free 208
  have c209 : w0.cell? ⟨w.heap.size, 209, none⟩ = some (.int .u32 S.turns) := H0.out.s.turns
  have f209 : w0.frozen? ⟨w.heap.size, 209, none⟩ = false := H0.out.s.free 209
  have c210 : w0.cell? ⟨w.heap.size, 210, none⟩ = some (.int .u32 S.sent) := H0.out.s.sent
  have f210 : w0.frozen? ⟨w.heap.size, 210, none⟩ = false := H0.out.s.free 210
  have c212 : w0.cell? ⟨w.heap.size, 212, none⟩ = some (.int .u32 S.prev) := H0.out.s.prev
  have f212 : w0.frozen? ⟨w.heap.size, 212, none⟩ = false := H0.out.s.free 212
  have c213 : w0.cell? ⟨w.heap.size, 213, none⟩ = some (.int .u32 S.ser) := H0.out.s.ser
  have f213 : w0.frozen? ⟨w.heap.size, 213, none⟩ = false := H0.out.s.free 213
  have H1 : Hid (MM w ((w0.setCell ⟨w.heap.size, 208, none⟩ (.int .u32 0)).setCell ⟨w.heap.size, 209, none⟩ (.int .u32 1)) w.heap.size { S with own := 0, turns := 1 }) := Lib.hid ((H0.out.own 0 ⟨by decide, by decide⟩).turns 1 ⟨by decide, by decide⟩)
  go_enter Try.func18, Try.ntmps18
  go_wp2_with (first
    | (rw [← hw0]; clear hw0)
    | ((with_reducible refine wpList_store_mid ?p1 37 (.tmp 26) (.tmp 25) ?p2 w.heap.size 144 ((iv z32).toArray) ?p3 ?p4 ?p5 ?p6 ?p7 ?p8); (case p1 => rfl); (case p2 => rfl); (case p3 => rfl); (case p4 => rfl); (case p5 => exact H1.out.there 144 _ (by decide)); (case p6 => kernel_rfl); (case p7 => exact one_iv z32); have H2 : Hid (MM w (((w0.setCell ⟨w.heap.size, 208, none⟩ (.int .u32 0)).setCell ⟨w.heap.size, 209, none⟩ (.int .u32 1)).setCells w.heap.size 144 (iv z32)) w.heap.size { S with own := 0, turns := 1, sk := z32 }) := Lib.hid (H1.out.sk z32 rfl); change wpList _ _ _ _ _ (((w0.setCell ⟨w.heap.size, 208, none⟩ (.int .u32 0)).setCell ⟨w.heap.size, 209, none⟩ (.int .u32 1)).setCells w.heap.size 144 (iv z32)); clear c208 c209 c210 c212 c213 f208 f209 f210 f212 f213; generalize ((w0.setCell ⟨w.heap.size, 208, none⟩ (.int .u32 0)).setCell ⟨w.heap.size, 209, none⟩ (.int .u32 1)).setCells w.heap.size 144 (iv z32) = W2 at *; have e208W2 : W2.cell? ⟨w.heap.size, 208, none⟩ = some (.int .u32 0) := H2.out.s.own; have g208W2 : W2.frozen? ⟨w.heap.size, 208, none⟩ = false := H2.out.s.free 208; have e209W2 : W2.cell? ⟨w.heap.size, 209, none⟩ = some (.int .u32 1) := H2.out.s.turns; have g209W2 : W2.frozen? ⟨w.heap.size, 209, none⟩ = false := H2.out.s.free 209; have e210W2 : W2.cell? ⟨w.heap.size, 210, none⟩ = some (.int .u32 S.sent) := H2.out.s.sent; have g210W2 : W2.frozen? ⟨w.heap.size, 210, none⟩ = false := H2.out.s.free 210; have e212W2 : W2.cell? ⟨w.heap.size, 212, none⟩ = some (.int .u32 S.prev) := H2.out.s.prev; have g212W2 : W2.frozen? ⟨w.heap.size, 212, none⟩ = false := H2.out.s.free 212; have e213W2 : W2.cell? ⟨w.heap.size, 213, none⟩ = some (.int .u32 S.ser) := H2.out.s.ser; have g213W2 : W2.frozen? ⟨w.heap.size, 213, none⟩ = false := H2.out.s.free 213)
    | ((with_reducible show wpList _ _ _ ({ dst := none, op := Op.store _ (.tmp 77) (.tmp 76), type := _, pos := _, after := _, guard := _ } :: _) _ _); have H5 : Hid (MM w (((W2.setCell ⟨w.heap.size, 210, none⟩ (.int .u32 0)).setCell ⟨w.heap.size, 212, none⟩ (.int .u32 0)).setCell ⟨w.heap.size, 213, none⟩ (.int .u32 0)) w.heap.size { S with own := 0, turns := 1, sk := z32, sent := 0, prev := 0, ser := 0 }) := Lib.hid (((H2.out.sent 0 ⟨by decide, by decide⟩).prev 0 ⟨by decide, by decide⟩).ser 0 ⟨by decide, by decide⟩); (with_reducible refine wpList_store_mid ?r1 42 (.tmp 77) (.tmp 76) ?r2 w.heap.size 214 ((hel z32 z32 0).toArray) ?r3 ?r4 ?r5 ?r6 ?r7 ?r8); (case r1 => rfl); (case r2 => rfl); (case r3 => rfl); (case r4 => rfl); (case r5 => exact H5.out.there 214 _ (by decide)); (case r6 => kernel_rfl); (case r7 => exact one_hel z32 z32 0); have H6 : Hid (MM w ((((W2.setCell ⟨w.heap.size, 210, none⟩ (.int .u32 0)).setCell ⟨w.heap.size, 212, none⟩ (.int .u32 0)).setCell ⟨w.heap.size, 213, none⟩ (.int .u32 0)).setCells w.heap.size 214 (hel z32 z32 0)) w.heap.size { S with own := 0, turns := 1, sk := z32, sent := 0, prev := 0, ser := 0, hid := z32, ho := z32, hp := 0 }) := Lib.hid (H5.out.hello z32 z32 0 rfl rfl); change wpList _ _ _ _ _ ((((W2.setCell ⟨w.heap.size, 210, none⟩ (.int .u32 0)).setCell ⟨w.heap.size, 212, none⟩ (.int .u32 0)).setCell ⟨w.heap.size, 213, none⟩ (.int .u32 0)).setCells w.heap.size 214 (hel z32 z32 0)); generalize (((W2.setCell ⟨w.heap.size, 210, none⟩ (.int .u32 0)).setCell ⟨w.heap.size, 212, none⟩ (.int .u32 0)).setCell ⟨w.heap.size, 213, none⟩ (.int .u32 0)).setCells w.heap.size 214 (hel z32 z32 0) = W6 at *)
    | ((with_reducible refine wpList_load_row ?u1 45 (.tmp 2) ?u2 w.heap.size ?u3 45 ({ S with own := 0, turns := 1, sk := z32, sent := 0, prev := 0, ser := 0, hid := z32, ho := z32, hp := 0 } : St).cl.toArray (0, 0) ?u4 ?u5 ?u6 ?u7 ?u8 ?u9); (case u1 => rfl); (case u2 => rfl); (case u3 => rfl); (case u5 => exact H6.out.s.hp); (case u6 => exact Try.underlying45); (case u7 => rfl); (case u8 => (rw [List.size_toArray, St.cl_len H6.out.s.ok]; kernel_rfl)); obtain ⟨bx, hbx⟩ := H6.out.box; have HBX := Lib.hid hbx; clear hbx)
    | ((with_reducible refine wpList_store_row ?x1 45 (.tmp 4) (.tmp 78) ?x2 (w.heap.size + 1) ({ S with own := 0, turns := 1, sk := z32, sent := 0, prev := 0, ser := 0, hid := z32, ho := z32, hp := 0 } : St).cl.toArray ?x3 ?x4 45 bx ?x5 ?x6 ?x7 ?x8 ?x9); (case x1 => rfl); (case x2 => rfl); go_must ((case x3 => rfl); (case x4 => rfl); (case x5 => exact HBX.out.2); (case x6 => (rw [List.size_toArray, St.cl_len H6.out.s.ok]; kernel_rfl)); (case x7 => (rw [HBX.out.1, List.size_toArray, St.cl_len H6.out.s.ok])); (case x8 => exact all_oneCell_toArray (St.cl_one _))))
    | fail)
  have r2 := setRow_heap W6 (w.heap.size + 1) _ ({ S with own := 0, turns := 1, sk := z32, sent := 0, prev := 0, ser := 0, hid := z32, ho := z32, hp := 0 } : St).cl.toArray _ _ HBX.out.2
  have r1 := H6.out.k.trans (kp_setRow1 W6 (w.heap.size + 1) ({ S with own := 0, turns := 1, sk := z32, sent := 0, prev := 0, ser := 0, hid := z32, ho := z32, hp := 0 } : St).cl.toArray) (fun m hm => by rw [List.mem_singleton] at hm; subst hm; exact .inr (by omega))
  exact bodyPost_ret (results_cell_row rfl _ _ (w.heap.size + 1) 45 _ (0, 0) _ rfl r2 Try.underlying45 rfl (by rw [List.size_toArray, St.cl_len H6.out.s.ok]; kernel_rfl)) rfl ⟨_, rfl, H6.out.s.ok, (by show (0 : Int) ≤ 3; decide), (by show (1 : Int) ≤ 4; decide), fine_01 _ H6.out.s.ok rfl (by show (1 : Int) ≠ 0; decide) (by show (1 : Int) ≤ 1; decide) rfl rfl rfl rfl ⟨rfl, rfl, rfl⟩, r1⟩
set_option maxRecDepth 100000 in
set_option maxHeartbeats 2000000 in
theorem may_10 (S : St) (hS : S.ok) (w : World) (ho : S.own % 4 = 1) (ht : S.turns % 4 = 0) : Calls Try.prog 18 #[.agg S.cl.toArray, .bool true] w (Mayd w) := by
  have HO := Lib.hid hS
  obtain ⟨w0, hw0⟩ : ∃ w0, w0 = (w.alloc (.cells S.cl.toArray 45)).alloc (.cells Try.zeroCells45 45) := ⟨_, rfl⟩
  have H0 : Hid (MM w w0 w.heap.size S) := Lib.hid (by rw [hw0]; exact mm_start w S hS _ (by kernel_rfl))
  have ho4 : S.own.tmod 4 = 1 := by rw [Int.tmod_eq_emod_of_nonneg hS.own.1]; exact ho
  have ht4 : S.turns.tmod 4 = 0 := by rw [Int.tmod_eq_emod_of_nonneg hS.turns.1]; exact ht
  clear ho ht
  have c208 : w0.cell? ⟨w.heap.size, 208, none⟩ = some (.int .u32 S.own) := H0.out.s.own
  have f208 : w0.frozen? ⟨w.heap.size, 208, none⟩ = false := H0.out.s.free 208
  have c209 : w0.cell? ⟨w.heap.size, 209, none⟩ = some (.int .u32 S.turns) := H0.out.s.turns
  have f209 : w0.frozen? ⟨w.heap.size, 209, none⟩ = false := H0.out.s.free 209
  have c210 : w0.cell? ⟨w.heap.size, 210, none⟩ = some (.int .u32 S.sent) := H0.out.s.sent
  have f210 : w0.frozen? ⟨w.heap.size, 210, none⟩ = false := H0.out.s.free 210
  have c212 : w0.cell? ⟨w.heap.size, 212, none⟩ = some (.int .u32 S.prev) := H0.out.s.prev
  have f212 : w0.frozen? ⟨w.heap.size, 212, none⟩ = false := H0.out.s.free 212
  have c213 : w0.cell? ⟨w.heap.size, 213, none⟩ = some (.int .u32 S.ser) := H0.out.s.ser
  have f213 : w0.frozen? ⟨w.heap.size, 213, none⟩ = false := H0.out.s.free 213
  have H1 : Hid (MM w ((w0.setCell ⟨w.heap.size, 208, none⟩ (.int .u32 1)).setCell ⟨w.heap.size, 209, none⟩ (.int .u32 0)) w.heap.size { S with own := 1, turns := 0 }) := Lib.hid ((H0.out.own 1 ⟨by decide, by decide⟩).turns 0 ⟨by decide, by decide⟩)
  have hsl := fun W => run_first32 W w.heap.size
  have har := fun W => run_arr32 W ⟨w.heap.size, 279, none⟩ 64
  have hy8 := or1 (b8_at hS.b8 7)
  have HX : Hid (∃ x, S.bind.getD 7 0 = x) := Lib.hid ⟨_, rfl⟩
  obtain ⟨x, hx⟩ := HX.out
  have HXE := Lib.hid hx
  rw [hx] at hy8
  clear HX hx
  obtain ⟨y, hy⟩ : ∃ y, bits .or .u8 x 1 = y := ⟨_, rfl⟩
  rw [hy] at hy8
  have HY := Lib.hid hy8
  have HYE := Lib.hid hy
  clear hy8
  have HG : Hid (St.grt { S with own := 1, turns := 0, prev := 0, ser := S.sent, rk := z32, got := 0, bind := S.bind.set 7 y, hid := (S.bind.set 7 y).take 32 } = true) := Lib.hid (grt_new _ rfl rfl (take_ne _ y hS.lb HY.out.2))
  have HL32 : Hid (((S.bind.set 7 y).take 32).length = 32) := Lib.hid (by rw [List.length_take, List.length_set, hS.lb]; rfl)
  go_enter Try.func18, Try.ntmps18
  go_wp2_with (first
    | (rw [← hw0]; clear hw0)
    | ((with_reducible show wpList _ _ _ ({ dst := none, op := Op.store _ (.tmp 62) (.tmp 61), type := _, pos := _, after := _, guard := _ } :: _) _ _); have H3 : Hid (MM w ((((w0.setCell ⟨w.heap.size, 208, none⟩ (.int .u32 1)).setCell ⟨w.heap.size, 209, none⟩ (.int .u32 0)).setCell ⟨w.heap.size, 212, none⟩ (.int .u32 0)).setCell ⟨w.heap.size, 213, none⟩ (.int .u32 S.sent)) w.heap.size { S with own := 1, turns := 0, prev := 0, ser := S.sent }) := Lib.hid ((H1.out.prev 0 ⟨by decide, by decide⟩).ser S.sent HO.out.sent); (with_reducible refine wpList_store_mid ?q1 37 (.tmp 62) (.tmp 61) ?q2 w.heap.size 176 ((iv z32).toArray) ?q3 ?q4 ?q5 ?q6 ?q7 ?q8); (case q1 => rfl); (case q2 => rfl); (case q3 => rfl); (case q4 => rfl); (case q5 => exact H3.out.there 176 _ (by decide)); (case q6 => kernel_rfl); (case q7 => exact one_iv z32); have H4 : Hid (MM w (((((w0.setCell ⟨w.heap.size, 208, none⟩ (.int .u32 1)).setCell ⟨w.heap.size, 209, none⟩ (.int .u32 0)).setCell ⟨w.heap.size, 212, none⟩ (.int .u32 0)).setCell ⟨w.heap.size, 213, none⟩ (.int .u32 S.sent)).setCells w.heap.size 176 (iv z32)) w.heap.size { S with own := 1, turns := 0, prev := 0, ser := S.sent, rk := z32 }) := Lib.hid (H3.out.rk z32 rfl); change wpList _ _ _ _ _ (((((w0.setCell ⟨w.heap.size, 208, none⟩ (.int .u32 1)).setCell ⟨w.heap.size, 209, none⟩ (.int .u32 0)).setCell ⟨w.heap.size, 212, none⟩ (.int .u32 0)).setCell ⟨w.heap.size, 213, none⟩ (.int .u32 S.sent)).setCells w.heap.size 176 (iv z32)); clear c208 c209 c210 c212 c213 f208 f209 f210 f212 f213; generalize ((((w0.setCell ⟨w.heap.size, 208, none⟩ (.int .u32 1)).setCell ⟨w.heap.size, 209, none⟩ (.int .u32 0)).setCell ⟨w.heap.size, 212, none⟩ (.int .u32 0)).setCell ⟨w.heap.size, 213, none⟩ (.int .u32 S.sent)).setCells w.heap.size 176 (iv z32) = W4 at *; have e208W4 : W4.cell? ⟨w.heap.size, 208, none⟩ = some (.int .u32 1) := H4.out.s.own; have g208W4 : W4.frozen? ⟨w.heap.size, 208, none⟩ = false := H4.out.s.free 208; have e209W4 : W4.cell? ⟨w.heap.size, 209, none⟩ = some (.int .u32 0) := H4.out.s.turns; have g209W4 : W4.frozen? ⟨w.heap.size, 209, none⟩ = false := H4.out.s.free 209; have e211W4 : W4.cell? ⟨w.heap.size, 211, none⟩ = some (.int .u32 S.got) := H4.out.s.got; have g211W4 : W4.frozen? ⟨w.heap.size, 211, none⟩ = false := H4.out.s.free 211; have eb : W4.cell? ⟨w.heap.size, 286, none⟩ = some (.int .u8 x) := (by rw [← HXE.out]; exact byte_at 279 7 S.bind H4.out.s.bind (by rw [HO.out.lb]; decide)); have gb : W4.frozen? ⟨w.heap.size, 286, none⟩ = false := H4.out.s.free 286)
    | ((with_reducible show wpList _ _ _ ({ dst := some 88, op := _, type := _, pos := _, after := _, guard := _ } :: _) _ _); go_must (have H5 : Hid (MM w ((W4.setCell ⟨w.heap.size, 211, none⟩ (.int .u32 0)).setCell ⟨w.heap.size, 286, none⟩ (.int .u8 y)) w.heap.size { S with own := 1, turns := 0, prev := 0, ser := S.sent, rk := z32, got := 0, bind := S.bind.set 7 y }) := Lib.hid (((Lib.hid (H4.out.got 0 ⟨by decide, by decide⟩)).out).bind 7 (by decide) y HY.out.1); (with_reducible refine wpList_load_mid ?v1 37 (.tmp 87) ?v2 w.heap.size 279 ?v3 (iv ((S.bind.set 7 y).take 32)) ?v4 ?v5 ?v6 ?v7 ?v8 ?v9); (case v1 => rfl); (case v2 => rfl); (case v3 => rfl); (case v5 => exact H5.out.s.first); (case v6 => exact Try.underlying37); (case v7 => rfl); (case v8 => (rw [iv_length, HL32.out]; kernel_rfl))))
    | ((with_reducible show wpList _ _ _ ({ dst := none, op := Op.store _ (.tmp 90) (.tmp 88), type := _, pos := _, after := _, guard := _ } :: _) _ _); (with_reducible refine wpList_store_mid ?r1 37 (.tmp 90) (.tmp 88) ?r2 w.heap.size 214 ((iv ((S.bind.set 7 y).take 32)).toArray) ?r3 ?r4 ?r5 ?r6 ?r7 ?r8); (case r1 => rfl); (case r2 => rfl); (case r3 => rfl); (case r4 => rfl); (case r5 => exact H5.out.there 214 _ (by rw [List.size_toArray, iv_length, HL32.out]; decide)); (case r6 => (rw [List.size_toArray, iv_length, HL32.out]; kernel_rfl)); (case r7 => exact one_iv _); have H6 : Hid (MM w (((W4.setCell ⟨w.heap.size, 211, none⟩ (.int .u32 0)).setCell ⟨w.heap.size, 286, none⟩ (.int .u8 y)).setCells w.heap.size 214 (iv ((S.bind.set 7 y).take 32))) w.heap.size { S with own := 1, turns := 0, prev := 0, ser := S.sent, rk := z32, got := 0, bind := S.bind.set 7 y, hid := (S.bind.set 7 y).take 32 }) := Lib.hid (H5.out.hid _ HL32.out); change wpList _ _ _ _ _ (((W4.setCell ⟨w.heap.size, 211, none⟩ (.int .u32 0)).setCell ⟨w.heap.size, 286, none⟩ (.int .u8 y)).setCells w.heap.size 214 (iv ((S.bind.set 7 y).take 32))); generalize ((W4.setCell ⟨w.heap.size, 211, none⟩ (.int .u32 0)).setCell ⟨w.heap.size, 286, none⟩ (.int .u8 y)).setCells w.heap.size 214 (iv ((S.bind.set 7 y).take 32)) = W6 at *)
    | ((with_reducible refine wpList_load_row ?u1 45 (.tmp 2) ?u2 w.heap.size ?u3 45 ({ S with own := 1, turns := 0, prev := 0, ser := S.sent, rk := z32, got := 0, bind := S.bind.set 7 y, hid := (S.bind.set 7 y).take 32 } : St).cl.toArray (0, 0) ?u4 ?u5 ?u6 ?u7 ?u8 ?u9); (case u1 => rfl); (case u2 => rfl); (case u3 => rfl); (case u5 => exact H6.out.s.hp); (case u6 => exact Try.underlying45); (case u7 => rfl); (case u8 => (rw [List.size_toArray, St.cl_len H6.out.s.ok]; kernel_rfl)); obtain ⟨bx, hbx⟩ := H6.out.box; have HBX := Lib.hid hbx; clear hbx)
    | ((with_reducible refine wpList_store_row ?x1 45 (.tmp 4) (.tmp 91) ?x2 (w.heap.size + 1) ({ S with own := 1, turns := 0, prev := 0, ser := S.sent, rk := z32, got := 0, bind := S.bind.set 7 y, hid := (S.bind.set 7 y).take 32 } : St).cl.toArray ?x3 ?x4 45 bx ?x5 ?x6 ?x7 ?x8 ?x9); (case x1 => rfl); (case x2 => rfl); go_must ((case x3 => rfl); (case x4 => rfl); (case x5 => exact HBX.out.2); (case x6 => (rw [List.size_toArray, St.cl_len H6.out.s.ok]; kernel_rfl)); (case x7 => (rw [HBX.out.1, List.size_toArray, St.cl_len H6.out.s.ok])); (case x8 => exact all_oneCell_toArray (St.cl_one _))))
    | fail)
  have r2 := setRow_heap W6 (w.heap.size + 1) _ ({ S with own := 1, turns := 0, prev := 0, ser := S.sent, rk := z32, got := 0, bind := S.bind.set 7 y, hid := (S.bind.set 7 y).take 32 } : St).cl.toArray _ _ HBX.out.2
  have r1 := H6.out.k.trans (kp_setRow1 W6 (w.heap.size + 1) ({ S with own := 1, turns := 0, prev := 0, ser := S.sent, rk := z32, got := 0, bind := S.bind.set 7 y, hid := (S.bind.set 7 y).take 32 } : St).cl.toArray) (fun m hm => by rw [List.mem_singleton] at hm; subst hm; exact .inr (by omega))
  exact bodyPost_ret (results_cell_row rfl _ _ (w.heap.size + 1) 45 _ (0, 0) _ rfl r2 Try.underlying45 rfl (by rw [List.size_toArray, St.cl_len H6.out.s.ok]; kernel_rfl)) rfl ⟨_, rfl, H6.out.s.ok, (by show (1 : Int) ≤ 3; decide), (by show (0 : Int) ≤ 4; decide), fine_10 _ H6.out.s.ok rfl rfl rfl rfl rfl rfl HG.out, r1⟩
set_option maxRecDepth 100000 in
set_option maxHeartbeats 2000000 in
theorem may_11 (S : St) (hS : S.ok) (w : World) (ho : S.own % 4 = 1) (ht : S.turns % 4 = 1) : Calls Try.prog 18 #[.agg S.cl.toArray, .bool true] w (Mayd w) := by
  have HO := Lib.hid hS
  obtain ⟨w0, hw0⟩ : ∃ w0, w0 = (w.alloc (.cells S.cl.toArray 45)).alloc (.cells Try.zeroCells45 45) := ⟨_, rfl⟩
  have H0 : Hid (MM w w0 w.heap.size S) := Lib.hid (by rw [hw0]; exact mm_start w S hS _ (by kernel_rfl))
  have ho4 : S.own.tmod 4 = 1 := by rw [Int.tmod_eq_emod_of_nonneg hS.own.1]; exact ho
  have ht4 : S.turns.tmod 4 = 1 := by rw [Int.tmod_eq_emod_of_nonneg hS.turns.1]; exact ht
  clear ho ht
  have c208 : w0.cell? ⟨w.heap.size, 208, none⟩ = some (.int .u32 S.own) := H0.out.s.own
  have f208 : w0.frozen? ⟨w.heap.size, 208, none⟩ = false := H0.out.s.free 208
  have c209 : w0.cell? ⟨w.heap.size, 209, none⟩ = some (.int .u32 S.turns) := H0.out.s.turns
  have f209 : w0.frozen? ⟨w.heap.size, 209, none⟩ = false := H0.out.s.free 209
  have c210 : w0.cell? ⟨w.heap.size, 210, none⟩ = some (.int .u32 S.sent) := H0.out.s.sent
  have f210 : w0.frozen? ⟨w.heap.size, 210, none⟩ = false := H0.out.s.free 210
  have c212 : w0.cell? ⟨w.heap.size, 212, none⟩ = some (.int .u32 S.prev) := H0.out.s.prev
  have f212 : w0.frozen? ⟨w.heap.size, 212, none⟩ = false := H0.out.s.free 212
  have c213 : w0.cell? ⟨w.heap.size, 213, none⟩ = some (.int .u32 S.ser) := H0.out.s.ser
  have f213 : w0.frozen? ⟨w.heap.size, 213, none⟩ = false := H0.out.s.free 213
  have H1 : Hid (MM w ((w0.setCell ⟨w.heap.size, 208, none⟩ (.int .u32 1)).setCell ⟨w.heap.size, 209, none⟩ (.int .u32 1)) w.heap.size { S with own := 1, turns := 1 }) := Lib.hid ((H0.out.own 1 ⟨by decide, by decide⟩).turns 1 ⟨by decide, by decide⟩)
  go_enter Try.func18, Try.ntmps18
  go_wp2_with (first
    | (rw [← hw0]; clear hw0)
    | ((with_reducible show wpList _ _ _ ({ dst := none, op := Op.store _ (.tmp 77) (.tmp 76), type := _, pos := _, after := _, guard := _ } :: _) _ _); have H5 : Hid (MM w ((((w0.setCell ⟨w.heap.size, 208, none⟩ (.int .u32 1)).setCell ⟨w.heap.size, 209, none⟩ (.int .u32 1)).setCell ⟨w.heap.size, 212, none⟩ (.int .u32 0)).setCell ⟨w.heap.size, 213, none⟩ (.int .u32 S.sent)) w.heap.size { S with own := 1, turns := 1, prev := 0, ser := S.sent }) := Lib.hid ((H1.out.prev 0 ⟨by decide, by decide⟩).ser S.sent HO.out.sent); (with_reducible refine wpList_store_mid ?r1 42 (.tmp 77) (.tmp 76) ?r2 w.heap.size 214 ((hel z32 z32 0).toArray) ?r3 ?r4 ?r5 ?r6 ?r7 ?r8); (case r1 => rfl); (case r2 => rfl); (case r3 => rfl); (case r4 => rfl); (case r5 => exact H5.out.there 214 _ (by decide)); (case r6 => kernel_rfl); (case r7 => exact one_hel z32 z32 0); have H6 : Hid (MM w (((((w0.setCell ⟨w.heap.size, 208, none⟩ (.int .u32 1)).setCell ⟨w.heap.size, 209, none⟩ (.int .u32 1)).setCell ⟨w.heap.size, 212, none⟩ (.int .u32 0)).setCell ⟨w.heap.size, 213, none⟩ (.int .u32 S.sent)).setCells w.heap.size 214 (hel z32 z32 0)) w.heap.size { S with own := 1, turns := 1, prev := 0, ser := S.sent, hid := z32, ho := z32, hp := 0 }) := Lib.hid (H5.out.hello z32 z32 0 rfl rfl); change wpList _ _ _ _ _ (((((w0.setCell ⟨w.heap.size, 208, none⟩ (.int .u32 1)).setCell ⟨w.heap.size, 209, none⟩ (.int .u32 1)).setCell ⟨w.heap.size, 212, none⟩ (.int .u32 0)).setCell ⟨w.heap.size, 213, none⟩ (.int .u32 S.sent)).setCells w.heap.size 214 (hel z32 z32 0)); generalize ((((w0.setCell ⟨w.heap.size, 208, none⟩ (.int .u32 1)).setCell ⟨w.heap.size, 209, none⟩ (.int .u32 1)).setCell ⟨w.heap.size, 212, none⟩ (.int .u32 0)).setCell ⟨w.heap.size, 213, none⟩ (.int .u32 S.sent)).setCells w.heap.size 214 (hel z32 z32 0) = W6 at *)
    | ((with_reducible refine wpList_load_row ?u1 45 (.tmp 2) ?u2 w.heap.size ?u3 45 ({ S with own := 1, turns := 1, prev := 0, ser := S.sent, hid := z32, ho := z32, hp := 0 } : St).cl.toArray (0, 0) ?u4 ?u5 ?u6 ?u7 ?u8 ?u9); (case u1 => rfl); (case u2 => rfl); (case u3 => rfl); (case u5 => exact H6.out.s.hp); (case u6 => exact Try.underlying45); (case u7 => rfl); (case u8 => (rw [List.size_toArray, St.cl_len H6.out.s.ok]; kernel_rfl)); obtain ⟨bx, hbx⟩ := H6.out.box; have HBX := Lib.hid hbx; clear hbx)
    | ((with_reducible refine wpList_store_row ?x1 45 (.tmp 4) (.tmp 78) ?x2 (w.heap.size + 1) ({ S with own := 1, turns := 1, prev := 0, ser := S.sent, hid := z32, ho := z32, hp := 0 } : St).cl.toArray ?x3 ?x4 45 bx ?x5 ?x6 ?x7 ?x8 ?x9); (case x1 => rfl); (case x2 => rfl); go_must ((case x3 => rfl); (case x4 => rfl); (case x5 => exact HBX.out.2); (case x6 => (rw [List.size_toArray, St.cl_len H6.out.s.ok]; kernel_rfl)); (case x7 => (rw [HBX.out.1, List.size_toArray, St.cl_len H6.out.s.ok])); (case x8 => exact all_oneCell_toArray (St.cl_one _))))
    | fail)
  have r2 := setRow_heap W6 (w.heap.size + 1) _ ({ S with own := 1, turns := 1, prev := 0, ser := S.sent, hid := z32, ho := z32, hp := 0 } : St).cl.toArray _ _ HBX.out.2
  have r1 := H6.out.k.trans (kp_setRow1 W6 (w.heap.size + 1) ({ S with own := 1, turns := 1, prev := 0, ser := S.sent, hid := z32, ho := z32, hp := 0 } : St).cl.toArray) (fun m hm => by rw [List.mem_singleton] at hm; subst hm; exact .inr (by omega))
  exact bodyPost_ret (results_cell_row rfl _ _ (w.heap.size + 1) 45 _ (0, 0) _ rfl r2 Try.underlying45 rfl (by rw [List.size_toArray, St.cl_len H6.out.s.ok]; kernel_rfl)) rfl ⟨_, rfl, H6.out.s.ok, (by show (1 : Int) ≤ 3; decide), (by show (1 : Int) ≤ 4; decide), fine_11 _ H6.out.s.ok rfl (by show (1 : Int) ≠ 0; decide) (by show (1 : Int) ≤ 2; decide) rfl rfl ⟨rfl, rfl, rfl⟩, r1⟩
set_option maxRecDepth 100000 in
set_option maxHeartbeats 2000000 in
theorem may_12 (S : St) (hS : S.ok) (w : World) (ho : S.own % 4 = 1) (ht : S.turns % 4 = 2) : Calls Try.prog 18 #[.agg S.cl.toArray, .bool true] w (Mayd w) := by
  have HO := Lib.hid hS
  obtain ⟨w0, hw0⟩ : ∃ w0, w0 = (w.alloc (.cells S.cl.toArray 45)).alloc (.cells Try.zeroCells45 45) := ⟨_, rfl⟩
  have H0 : Hid (MM w w0 w.heap.size S) := Lib.hid (by rw [hw0]; exact mm_start w S hS _ (by kernel_rfl))
  have ho4 : S.own.tmod 4 = 1 := by rw [Int.tmod_eq_emod_of_nonneg hS.own.1]; exact ho
  have ht4 : S.turns.tmod 4 = 2 := by rw [Int.tmod_eq_emod_of_nonneg hS.turns.1]; exact ht
  clear ho ht
  have c208 : w0.cell? ⟨w.heap.size, 208, none⟩ = some (.int .u32 S.own) := H0.out.s.own
  have f208 : w0.frozen? ⟨w.heap.size, 208, none⟩ = false := H0.out.s.free 208
  have c209 : w0.cell? ⟨w.heap.size, 209, none⟩ = some (.int .u32 S.turns) := H0.out.s.turns
  have f209 : w0.frozen? ⟨w.heap.size, 209, none⟩ = false := H0.out.s.free 209
  have c210 : w0.cell? ⟨w.heap.size, 210, none⟩ = some (.int .u32 S.sent) := H0.out.s.sent
  have f210 : w0.frozen? ⟨w.heap.size, 210, none⟩ = false := H0.out.s.free 210
  have c212 : w0.cell? ⟨w.heap.size, 212, none⟩ = some (.int .u32 S.prev) := H0.out.s.prev
  have f212 : w0.frozen? ⟨w.heap.size, 212, none⟩ = false := H0.out.s.free 212
  have c213 : w0.cell? ⟨w.heap.size, 213, none⟩ = some (.int .u32 S.ser) := H0.out.s.ser
  have f213 : w0.frozen? ⟨w.heap.size, 213, none⟩ = false := H0.out.s.free 213
  have H1 : Hid (MM w ((w0.setCell ⟨w.heap.size, 208, none⟩ (.int .u32 1)).setCell ⟨w.heap.size, 209, none⟩ (.int .u32 2)) w.heap.size { S with own := 1, turns := 2 }) := Lib.hid ((H0.out.own 1 ⟨by decide, by decide⟩).turns 2 ⟨by decide, by decide⟩)
  go_enter Try.func18, Try.ntmps18
  go_wp2_with (first
    | (rw [← hw0]; clear hw0)
    | ((with_reducible show wpList _ _ _ ({ dst := none, op := Op.store _ (.tmp 77) (.tmp 76), type := _, pos := _, after := _, guard := _ } :: _) _ _); have H5 : Hid (MM w ((((w0.setCell ⟨w.heap.size, 208, none⟩ (.int .u32 1)).setCell ⟨w.heap.size, 209, none⟩ (.int .u32 2)).setCell ⟨w.heap.size, 212, none⟩ (.int .u32 0)).setCell ⟨w.heap.size, 213, none⟩ (.int .u32 S.sent)) w.heap.size { S with own := 1, turns := 2, prev := 0, ser := S.sent }) := Lib.hid ((H1.out.prev 0 ⟨by decide, by decide⟩).ser S.sent HO.out.sent); (with_reducible refine wpList_store_mid ?r1 42 (.tmp 77) (.tmp 76) ?r2 w.heap.size 214 ((hel z32 z32 0).toArray) ?r3 ?r4 ?r5 ?r6 ?r7 ?r8); (case r1 => rfl); (case r2 => rfl); (case r3 => rfl); (case r4 => rfl); (case r5 => exact H5.out.there 214 _ (by decide)); (case r6 => kernel_rfl); (case r7 => exact one_hel z32 z32 0); have H6 : Hid (MM w (((((w0.setCell ⟨w.heap.size, 208, none⟩ (.int .u32 1)).setCell ⟨w.heap.size, 209, none⟩ (.int .u32 2)).setCell ⟨w.heap.size, 212, none⟩ (.int .u32 0)).setCell ⟨w.heap.size, 213, none⟩ (.int .u32 S.sent)).setCells w.heap.size 214 (hel z32 z32 0)) w.heap.size { S with own := 1, turns := 2, prev := 0, ser := S.sent, hid := z32, ho := z32, hp := 0 }) := Lib.hid (H5.out.hello z32 z32 0 rfl rfl); change wpList _ _ _ _ _ (((((w0.setCell ⟨w.heap.size, 208, none⟩ (.int .u32 1)).setCell ⟨w.heap.size, 209, none⟩ (.int .u32 2)).setCell ⟨w.heap.size, 212, none⟩ (.int .u32 0)).setCell ⟨w.heap.size, 213, none⟩ (.int .u32 S.sent)).setCells w.heap.size 214 (hel z32 z32 0)); generalize ((((w0.setCell ⟨w.heap.size, 208, none⟩ (.int .u32 1)).setCell ⟨w.heap.size, 209, none⟩ (.int .u32 2)).setCell ⟨w.heap.size, 212, none⟩ (.int .u32 0)).setCell ⟨w.heap.size, 213, none⟩ (.int .u32 S.sent)).setCells w.heap.size 214 (hel z32 z32 0) = W6 at *)
    | ((with_reducible refine wpList_load_row ?u1 45 (.tmp 2) ?u2 w.heap.size ?u3 45 ({ S with own := 1, turns := 2, prev := 0, ser := S.sent, hid := z32, ho := z32, hp := 0 } : St).cl.toArray (0, 0) ?u4 ?u5 ?u6 ?u7 ?u8 ?u9); (case u1 => rfl); (case u2 => rfl); (case u3 => rfl); (case u5 => exact H6.out.s.hp); (case u6 => exact Try.underlying45); (case u7 => rfl); (case u8 => (rw [List.size_toArray, St.cl_len H6.out.s.ok]; kernel_rfl)); obtain ⟨bx, hbx⟩ := H6.out.box; have HBX := Lib.hid hbx; clear hbx)
    | ((with_reducible refine wpList_store_row ?x1 45 (.tmp 4) (.tmp 78) ?x2 (w.heap.size + 1) ({ S with own := 1, turns := 2, prev := 0, ser := S.sent, hid := z32, ho := z32, hp := 0 } : St).cl.toArray ?x3 ?x4 45 bx ?x5 ?x6 ?x7 ?x8 ?x9); (case x1 => rfl); (case x2 => rfl); go_must ((case x3 => rfl); (case x4 => rfl); (case x5 => exact HBX.out.2); (case x6 => (rw [List.size_toArray, St.cl_len H6.out.s.ok]; kernel_rfl)); (case x7 => (rw [HBX.out.1, List.size_toArray, St.cl_len H6.out.s.ok])); (case x8 => exact all_oneCell_toArray (St.cl_one _))))
    | fail)
  have r2 := setRow_heap W6 (w.heap.size + 1) _ ({ S with own := 1, turns := 2, prev := 0, ser := S.sent, hid := z32, ho := z32, hp := 0 } : St).cl.toArray _ _ HBX.out.2
  have r1 := H6.out.k.trans (kp_setRow1 W6 (w.heap.size + 1) ({ S with own := 1, turns := 2, prev := 0, ser := S.sent, hid := z32, ho := z32, hp := 0 } : St).cl.toArray) (fun m hm => by rw [List.mem_singleton] at hm; subst hm; exact .inr (by omega))
  exact bodyPost_ret (results_cell_row rfl _ _ (w.heap.size + 1) 45 _ (0, 0) _ rfl r2 Try.underlying45 rfl (by rw [List.size_toArray, St.cl_len H6.out.s.ok]; kernel_rfl)) rfl ⟨_, rfl, H6.out.s.ok, (by show (1 : Int) ≤ 3; decide), (by show (2 : Int) ≤ 4; decide), fine_11 _ H6.out.s.ok rfl (by show (2 : Int) ≠ 0; decide) (by show (2 : Int) ≤ 2; decide) rfl rfl ⟨rfl, rfl, rfl⟩, r1⟩
set_option maxRecDepth 100000 in
set_option maxHeartbeats 2000000 in
theorem may_13 (S : St) (hS : S.ok) (w : World) (ho : S.own % 4 = 1) (ht : S.turns % 4 = 3) : Calls Try.prog 18 #[.agg S.cl.toArray, .bool true] w (Mayd w) := by
  have HO := Lib.hid hS
  obtain ⟨w0, hw0⟩ : ∃ w0, w0 = (w.alloc (.cells S.cl.toArray 45)).alloc (.cells Try.zeroCells45 45) := ⟨_, rfl⟩
  have H0 : Hid (MM w w0 w.heap.size S) := Lib.hid (by rw [hw0]; exact mm_start w S hS _ (by kernel_rfl))
  have ho4 : S.own.tmod 4 = 1 := by rw [Int.tmod_eq_emod_of_nonneg hS.own.1]; exact ho
  have ht4 : S.turns.tmod 4 = 3 := by rw [Int.tmod_eq_emod_of_nonneg hS.turns.1]; exact ht
  clear ho ht
  have c208 : w0.cell? ⟨w.heap.size, 208, none⟩ = some (.int .u32 S.own) := H0.out.s.own
  have f208 : w0.frozen? ⟨w.heap.size, 208, none⟩ = false := H0.out.s.free 208
  have c209 : w0.cell? ⟨w.heap.size, 209, none⟩ = some (.int .u32 S.turns) := H0.out.s.turns
  have f209 : w0.frozen? ⟨w.heap.size, 209, none⟩ = false := H0.out.s.free 209
  have c210 : w0.cell? ⟨w.heap.size, 210, none⟩ = some (.int .u32 S.sent) := H0.out.s.sent
  have f210 : w0.frozen? ⟨w.heap.size, 210, none⟩ = false := H0.out.s.free 210
  have c212 : w0.cell? ⟨w.heap.size, 212, none⟩ = some (.int .u32 S.prev) := H0.out.s.prev
  have f212 : w0.frozen? ⟨w.heap.size, 212, none⟩ = false := H0.out.s.free 212
  have c213 : w0.cell? ⟨w.heap.size, 213, none⟩ = some (.int .u32 S.ser) := H0.out.s.ser
  have f213 : w0.frozen? ⟨w.heap.size, 213, none⟩ = false := H0.out.s.free 213
  have H1 : Hid (MM w ((w0.setCell ⟨w.heap.size, 208, none⟩ (.int .u32 1)).setCell ⟨w.heap.size, 209, none⟩ (.int .u32 2)) w.heap.size { S with own := 1, turns := 2 }) := Lib.hid ((H0.out.own 1 ⟨by decide, by decide⟩).turns 2 ⟨by decide, by decide⟩)
  go_enter Try.func18, Try.ntmps18
  go_wp2_with (first
    | (rw [← hw0]; clear hw0)
    | ((with_reducible show wpList _ _ _ ({ dst := none, op := Op.store _ (.tmp 77) (.tmp 76), type := _, pos := _, after := _, guard := _ } :: _) _ _); have H5 : Hid (MM w ((((w0.setCell ⟨w.heap.size, 208, none⟩ (.int .u32 1)).setCell ⟨w.heap.size, 209, none⟩ (.int .u32 2)).setCell ⟨w.heap.size, 212, none⟩ (.int .u32 0)).setCell ⟨w.heap.size, 213, none⟩ (.int .u32 S.sent)) w.heap.size { S with own := 1, turns := 2, prev := 0, ser := S.sent }) := Lib.hid ((H1.out.prev 0 ⟨by decide, by decide⟩).ser S.sent HO.out.sent); (with_reducible refine wpList_store_mid ?r1 42 (.tmp 77) (.tmp 76) ?r2 w.heap.size 214 ((hel z32 z32 0).toArray) ?r3 ?r4 ?r5 ?r6 ?r7 ?r8); (case r1 => rfl); (case r2 => rfl); (case r3 => rfl); (case r4 => rfl); (case r5 => exact H5.out.there 214 _ (by decide)); (case r6 => kernel_rfl); (case r7 => exact one_hel z32 z32 0); have H6 : Hid (MM w (((((w0.setCell ⟨w.heap.size, 208, none⟩ (.int .u32 1)).setCell ⟨w.heap.size, 209, none⟩ (.int .u32 2)).setCell ⟨w.heap.size, 212, none⟩ (.int .u32 0)).setCell ⟨w.heap.size, 213, none⟩ (.int .u32 S.sent)).setCells w.heap.size 214 (hel z32 z32 0)) w.heap.size { S with own := 1, turns := 2, prev := 0, ser := S.sent, hid := z32, ho := z32, hp := 0 }) := Lib.hid (H5.out.hello z32 z32 0 rfl rfl); change wpList _ _ _ _ _ (((((w0.setCell ⟨w.heap.size, 208, none⟩ (.int .u32 1)).setCell ⟨w.heap.size, 209, none⟩ (.int .u32 2)).setCell ⟨w.heap.size, 212, none⟩ (.int .u32 0)).setCell ⟨w.heap.size, 213, none⟩ (.int .u32 S.sent)).setCells w.heap.size 214 (hel z32 z32 0)); generalize ((((w0.setCell ⟨w.heap.size, 208, none⟩ (.int .u32 1)).setCell ⟨w.heap.size, 209, none⟩ (.int .u32 2)).setCell ⟨w.heap.size, 212, none⟩ (.int .u32 0)).setCell ⟨w.heap.size, 213, none⟩ (.int .u32 S.sent)).setCells w.heap.size 214 (hel z32 z32 0) = W6 at *)
    | ((with_reducible refine wpList_load_row ?u1 45 (.tmp 2) ?u2 w.heap.size ?u3 45 ({ S with own := 1, turns := 2, prev := 0, ser := S.sent, hid := z32, ho := z32, hp := 0 } : St).cl.toArray (0, 0) ?u4 ?u5 ?u6 ?u7 ?u8 ?u9); (case u1 => rfl); (case u2 => rfl); (case u3 => rfl); (case u5 => exact H6.out.s.hp); (case u6 => exact Try.underlying45); (case u7 => rfl); (case u8 => (rw [List.size_toArray, St.cl_len H6.out.s.ok]; kernel_rfl)); obtain ⟨bx, hbx⟩ := H6.out.box; have HBX := Lib.hid hbx; clear hbx)
    | ((with_reducible refine wpList_store_row ?x1 45 (.tmp 4) (.tmp 78) ?x2 (w.heap.size + 1) ({ S with own := 1, turns := 2, prev := 0, ser := S.sent, hid := z32, ho := z32, hp := 0 } : St).cl.toArray ?x3 ?x4 45 bx ?x5 ?x6 ?x7 ?x8 ?x9); (case x1 => rfl); (case x2 => rfl); go_must ((case x3 => rfl); (case x4 => rfl); (case x5 => exact HBX.out.2); (case x6 => (rw [List.size_toArray, St.cl_len H6.out.s.ok]; kernel_rfl)); (case x7 => (rw [HBX.out.1, List.size_toArray, St.cl_len H6.out.s.ok])); (case x8 => exact all_oneCell_toArray (St.cl_one _))))
    | fail)
  have r2 := setRow_heap W6 (w.heap.size + 1) _ ({ S with own := 1, turns := 2, prev := 0, ser := S.sent, hid := z32, ho := z32, hp := 0 } : St).cl.toArray _ _ HBX.out.2
  have r1 := H6.out.k.trans (kp_setRow1 W6 (w.heap.size + 1) ({ S with own := 1, turns := 2, prev := 0, ser := S.sent, hid := z32, ho := z32, hp := 0 } : St).cl.toArray) (fun m hm => by rw [List.mem_singleton] at hm; subst hm; exact .inr (by omega))
  exact bodyPost_ret (results_cell_row rfl _ _ (w.heap.size + 1) 45 _ (0, 0) _ rfl r2 Try.underlying45 rfl (by rw [List.size_toArray, St.cl_len H6.out.s.ok]; kernel_rfl)) rfl ⟨_, rfl, H6.out.s.ok, (by show (1 : Int) ≤ 3; decide), (by show (2 : Int) ≤ 4; decide), fine_11 _ H6.out.s.ok rfl (by show (2 : Int) ≠ 0; decide) (by show (2 : Int) ≤ 2; decide) rfl rfl ⟨rfl, rfl, rfl⟩, r1⟩
set_option maxRecDepth 100000 in
set_option maxHeartbeats 2000000 in
theorem may_20 (S : St) (hS : S.ok) (w : World) (ho : S.own % 4 = 2) (ht : S.turns % 4 = 0) : Calls Try.prog 18 #[.agg S.cl.toArray, .bool true] w (Mayd w) := by
  have HO := Lib.hid hS
  obtain ⟨w0, hw0⟩ : ∃ w0, w0 = (w.alloc (.cells S.cl.toArray 45)).alloc (.cells Try.zeroCells45 45) := ⟨_, rfl⟩
  have H0 : Hid (MM w w0 w.heap.size S) := Lib.hid (by rw [hw0]; exact mm_start w S hS _ (by kernel_rfl))
  have ho4 : S.own.tmod 4 = 2 := by rw [Int.tmod_eq_emod_of_nonneg hS.own.1]; exact ho
  have ht4 : S.turns.tmod 4 = 0 := by rw [Int.tmod_eq_emod_of_nonneg hS.turns.1]; exact ht
  clear ho ht
  have c208 : w0.cell? ⟨w.heap.size, 208, none⟩ = some (.int .u32 S.own) := H0.out.s.own
  have f208 : w0.frozen? ⟨w.heap.size, 208, none⟩ = false := H0.out.s.free 208
  have c209 : w0.cell? ⟨w.heap.size, 209, none⟩ = some (.int .u32 S.turns) := H0.out.s.turns
  have f209 : w0.frozen? ⟨w.heap.size, 209, none⟩ = false := H0.out.s.free 209
  have c210 : w0.cell? ⟨w.heap.size, 210, none⟩ = some (.int .u32 S.sent) := H0.out.s.sent
  have f210 : w0.frozen? ⟨w.heap.size, 210, none⟩ = false := H0.out.s.free 210
  have c212 : w0.cell? ⟨w.heap.size, 212, none⟩ = some (.int .u32 S.prev) := H0.out.s.prev
  have f212 : w0.frozen? ⟨w.heap.size, 212, none⟩ = false := H0.out.s.free 212
  have c213 : w0.cell? ⟨w.heap.size, 213, none⟩ = some (.int .u32 S.ser) := H0.out.s.ser
  have f213 : w0.frozen? ⟨w.heap.size, 213, none⟩ = false := H0.out.s.free 213
  have H1 : Hid (MM w ((w0.setCell ⟨w.heap.size, 208, none⟩ (.int .u32 2)).setCell ⟨w.heap.size, 209, none⟩ (.int .u32 1)) w.heap.size { S with own := 2, turns := 1 }) := Lib.hid ((H0.out.own 2 ⟨by decide, by decide⟩).turns 1 ⟨by decide, by decide⟩)
  have rprev : S.prev.tmod 1000 = S.prev % 1000 := Int.tmod_eq_emod_of_nonneg hS.prev.1
  have rsent : S.sent.tmod 1000 = S.sent % 1000 := Int.tmod_eq_emod_of_nonneg hS.sent.1
  have rser : S.ser.tmod 1000 = S.ser % 1000 := Int.tmod_eq_emod_of_nonneg hS.ser.1
  have v1 : IntKind.u32.wrap (S.prev % 1000 + S.sent % 1000) = S.prev % 1000 + S.sent % 1000 := by rw [IntKind.wrap_u32]; omega
  have v2 : IntKind.u32.wrap (S.prev % 1000 + S.sent % 1000 + S.ser % 1000) = S.prev % 1000 + S.sent % 1000 + S.ser % 1000 := by rw [IntKind.wrap_u32]; omega
  go_enter Try.func18, Try.ntmps18
  go_wp2_with (first
    | (rw [← hw0]; clear hw0)
    | ((with_reducible show wpList _ _ _ ({ dst := none, op := Op.store _ (.tmp 77) (.tmp 76), type := _, pos := _, after := _, guard := _ } :: _) _ _); have H5 : Hid (MM w (((((w0.setCell ⟨w.heap.size, 208, none⟩ (.int .u32 2)).setCell ⟨w.heap.size, 209, none⟩ (.int .u32 1)).setCell ⟨w.heap.size, 212, none⟩ (.int .u32 (S.prev % 1000))).setCell ⟨w.heap.size, 210, none⟩ (.int .u32 (S.sent % 1000))).setCell ⟨w.heap.size, 213, none⟩ (.int .u32 (S.prev % 1000 + S.sent % 1000 + S.ser % 1000))) w.heap.size { S with own := 2, turns := 1, prev := S.prev % 1000, sent := S.sent % 1000, ser := (S.prev % 1000 + S.sent % 1000 + S.ser % 1000) }) := Lib.hid (((H1.out.prev (S.prev % 1000) ⟨by omega, by omega⟩).sent (S.sent % 1000) ⟨by omega, by omega⟩).ser (S.prev % 1000 + S.sent % 1000 + S.ser % 1000) ⟨by omega, by omega⟩); (with_reducible refine wpList_store_mid ?r1 42 (.tmp 77) (.tmp 76) ?r2 w.heap.size 214 ((hel z32 z32 0).toArray) ?r3 ?r4 ?r5 ?r6 ?r7 ?r8); (case r1 => rfl); (case r2 => rfl); (case r3 => rfl); (case r4 => rfl); (case r5 => exact H5.out.there 214 _ (by decide)); (case r6 => kernel_rfl); (case r7 => exact one_hel z32 z32 0); have H6 : Hid (MM w ((((((w0.setCell ⟨w.heap.size, 208, none⟩ (.int .u32 2)).setCell ⟨w.heap.size, 209, none⟩ (.int .u32 1)).setCell ⟨w.heap.size, 212, none⟩ (.int .u32 (S.prev % 1000))).setCell ⟨w.heap.size, 210, none⟩ (.int .u32 (S.sent % 1000))).setCell ⟨w.heap.size, 213, none⟩ (.int .u32 (S.prev % 1000 + S.sent % 1000 + S.ser % 1000))).setCells w.heap.size 214 (hel z32 z32 0)) w.heap.size { S with own := 2, turns := 1, prev := S.prev % 1000, sent := S.sent % 1000, ser := (S.prev % 1000 + S.sent % 1000 + S.ser % 1000), hid := z32, ho := z32, hp := 0 }) := Lib.hid (H5.out.hello z32 z32 0 rfl rfl); change wpList _ _ _ _ _ ((((((w0.setCell ⟨w.heap.size, 208, none⟩ (.int .u32 2)).setCell ⟨w.heap.size, 209, none⟩ (.int .u32 1)).setCell ⟨w.heap.size, 212, none⟩ (.int .u32 (S.prev % 1000))).setCell ⟨w.heap.size, 210, none⟩ (.int .u32 (S.sent % 1000))).setCell ⟨w.heap.size, 213, none⟩ (.int .u32 (S.prev % 1000 + S.sent % 1000 + S.ser % 1000))).setCells w.heap.size 214 (hel z32 z32 0)); generalize (((((w0.setCell ⟨w.heap.size, 208, none⟩ (.int .u32 2)).setCell ⟨w.heap.size, 209, none⟩ (.int .u32 1)).setCell ⟨w.heap.size, 212, none⟩ (.int .u32 (S.prev % 1000))).setCell ⟨w.heap.size, 210, none⟩ (.int .u32 (S.sent % 1000))).setCell ⟨w.heap.size, 213, none⟩ (.int .u32 (S.prev % 1000 + S.sent % 1000 + S.ser % 1000))).setCells w.heap.size 214 (hel z32 z32 0) = W6 at *)
    | ((with_reducible refine wpList_load_row ?u1 45 (.tmp 2) ?u2 w.heap.size ?u3 45 ({ S with own := 2, turns := 1, prev := S.prev % 1000, sent := S.sent % 1000, ser := (S.prev % 1000 + S.sent % 1000 + S.ser % 1000), hid := z32, ho := z32, hp := 0 } : St).cl.toArray (0, 0) ?u4 ?u5 ?u6 ?u7 ?u8 ?u9); (case u1 => rfl); (case u2 => rfl); (case u3 => rfl); (case u5 => exact H6.out.s.hp); (case u6 => exact Try.underlying45); (case u7 => rfl); (case u8 => (rw [List.size_toArray, St.cl_len H6.out.s.ok]; kernel_rfl)); obtain ⟨bx, hbx⟩ := H6.out.box; have HBX := Lib.hid hbx; clear hbx)
    | ((with_reducible refine wpList_store_row ?x1 45 (.tmp 4) (.tmp 78) ?x2 (w.heap.size + 1) ({ S with own := 2, turns := 1, prev := S.prev % 1000, sent := S.sent % 1000, ser := (S.prev % 1000 + S.sent % 1000 + S.ser % 1000), hid := z32, ho := z32, hp := 0 } : St).cl.toArray ?x3 ?x4 45 bx ?x5 ?x6 ?x7 ?x8 ?x9); (case x1 => rfl); (case x2 => rfl); go_must ((case x3 => rfl); (case x4 => rfl); (case x5 => exact HBX.out.2); (case x6 => (rw [List.size_toArray, St.cl_len H6.out.s.ok]; kernel_rfl)); (case x7 => (rw [HBX.out.1, List.size_toArray, St.cl_len H6.out.s.ok])); (case x8 => exact all_oneCell_toArray (St.cl_one _))))
    | fail)
  have r2 := setRow_heap W6 (w.heap.size + 1) _ ({ S with own := 2, turns := 1, prev := S.prev % 1000, sent := S.sent % 1000, ser := (S.prev % 1000 + S.sent % 1000 + S.ser % 1000), hid := z32, ho := z32, hp := 0 } : St).cl.toArray _ _ HBX.out.2
  have r1 := H6.out.k.trans (kp_setRow1 W6 (w.heap.size + 1) ({ S with own := 2, turns := 1, prev := S.prev % 1000, sent := S.sent % 1000, ser := (S.prev % 1000 + S.sent % 1000 + S.ser % 1000), hid := z32, ho := z32, hp := 0 } : St).cl.toArray) (fun m hm => by rw [List.mem_singleton] at hm; subst hm; exact .inr (by omega))
  exact bodyPost_ret (results_cell_row rfl _ _ (w.heap.size + 1) 45 _ (0, 0) _ rfl r2 Try.underlying45 rfl (by rw [List.size_toArray, St.cl_len H6.out.s.ok]; kernel_rfl)) rfl ⟨_, rfl, H6.out.s.ok, (by show (2 : Int) ≤ 3; decide), (by show (1 : Int) ≤ 4; decide), fine_21 _ H6.out.s.ok (by show (2 : Int) ≤ 2; decide) (by show (2 : Int) - 1 ≤ 1; decide) (by show (1 : Int) - 2 ≤ 1; decide) (by show (1 : Int) ≠ 0; decide) (by show S.sent % 1000 ≤ S.prev % 1000 + S.sent % 1000 + S.ser % 1000; omega) (by show S.prev % 1000 ≤ S.prev % 1000 + S.sent % 1000 + S.ser % 1000 - S.sent % 1000; omega) ⟨rfl, rfl, rfl⟩, r1⟩
set_option maxRecDepth 100000 in
set_option maxHeartbeats 2000000 in
theorem may_21 (S : St) (hS : S.ok) (w : World) (ho : S.own % 4 = 2) (ht : S.turns % 4 = 1) : Calls Try.prog 18 #[.agg S.cl.toArray, .bool true] w (Mayd w) := by
  have HO := Lib.hid hS
  obtain ⟨w0, hw0⟩ : ∃ w0, w0 = (w.alloc (.cells S.cl.toArray 45)).alloc (.cells Try.zeroCells45 45) := ⟨_, rfl⟩
  have H0 : Hid (MM w w0 w.heap.size S) := Lib.hid (by rw [hw0]; exact mm_start w S hS _ (by kernel_rfl))
  have ho4 : S.own.tmod 4 = 2 := by rw [Int.tmod_eq_emod_of_nonneg hS.own.1]; exact ho
  have ht4 : S.turns.tmod 4 = 1 := by rw [Int.tmod_eq_emod_of_nonneg hS.turns.1]; exact ht
  clear ho ht
  have c208 : w0.cell? ⟨w.heap.size, 208, none⟩ = some (.int .u32 S.own) := H0.out.s.own
  have f208 : w0.frozen? ⟨w.heap.size, 208, none⟩ = false := H0.out.s.free 208
  have c209 : w0.cell? ⟨w.heap.size, 209, none⟩ = some (.int .u32 S.turns) := H0.out.s.turns
  have f209 : w0.frozen? ⟨w.heap.size, 209, none⟩ = false := H0.out.s.free 209
  have c210 : w0.cell? ⟨w.heap.size, 210, none⟩ = some (.int .u32 S.sent) := H0.out.s.sent
  have f210 : w0.frozen? ⟨w.heap.size, 210, none⟩ = false := H0.out.s.free 210
  have c212 : w0.cell? ⟨w.heap.size, 212, none⟩ = some (.int .u32 S.prev) := H0.out.s.prev
  have f212 : w0.frozen? ⟨w.heap.size, 212, none⟩ = false := H0.out.s.free 212
  have c213 : w0.cell? ⟨w.heap.size, 213, none⟩ = some (.int .u32 S.ser) := H0.out.s.ser
  have f213 : w0.frozen? ⟨w.heap.size, 213, none⟩ = false := H0.out.s.free 213
  have H1 : Hid (MM w ((w0.setCell ⟨w.heap.size, 208, none⟩ (.int .u32 2)).setCell ⟨w.heap.size, 209, none⟩ (.int .u32 1)) w.heap.size { S with own := 2, turns := 1 }) := Lib.hid ((H0.out.own 2 ⟨by decide, by decide⟩).turns 1 ⟨by decide, by decide⟩)
  have rprev : S.prev.tmod 1000 = S.prev % 1000 := Int.tmod_eq_emod_of_nonneg hS.prev.1
  have rsent : S.sent.tmod 1000 = S.sent % 1000 := Int.tmod_eq_emod_of_nonneg hS.sent.1
  have rser : S.ser.tmod 1000 = S.ser % 1000 := Int.tmod_eq_emod_of_nonneg hS.ser.1
  have v1 : IntKind.u32.wrap (S.prev % 1000 + S.sent % 1000) = S.prev % 1000 + S.sent % 1000 := by rw [IntKind.wrap_u32]; omega
  have v2 : IntKind.u32.wrap (S.prev % 1000 + S.sent % 1000 + S.ser % 1000) = S.prev % 1000 + S.sent % 1000 + S.ser % 1000 := by rw [IntKind.wrap_u32]; omega
  go_enter Try.func18, Try.ntmps18
  go_wp2_with (first
    | (rw [← hw0]; clear hw0)
    | ((with_reducible show wpList _ _ _ ({ dst := none, op := Op.store _ (.tmp 77) (.tmp 76), type := _, pos := _, after := _, guard := _ } :: _) _ _); have H5 : Hid (MM w (((((w0.setCell ⟨w.heap.size, 208, none⟩ (.int .u32 2)).setCell ⟨w.heap.size, 209, none⟩ (.int .u32 1)).setCell ⟨w.heap.size, 212, none⟩ (.int .u32 (S.prev % 1000))).setCell ⟨w.heap.size, 210, none⟩ (.int .u32 (S.sent % 1000))).setCell ⟨w.heap.size, 213, none⟩ (.int .u32 (S.prev % 1000 + S.sent % 1000 + S.ser % 1000))) w.heap.size { S with own := 2, turns := 1, prev := S.prev % 1000, sent := S.sent % 1000, ser := (S.prev % 1000 + S.sent % 1000 + S.ser % 1000) }) := Lib.hid (((H1.out.prev (S.prev % 1000) ⟨by omega, by omega⟩).sent (S.sent % 1000) ⟨by omega, by omega⟩).ser (S.prev % 1000 + S.sent % 1000 + S.ser % 1000) ⟨by omega, by omega⟩); (with_reducible refine wpList_store_mid ?r1 42 (.tmp 77) (.tmp 76) ?r2 w.heap.size 214 ((hel z32 z32 0).toArray) ?r3 ?r4 ?r5 ?r6 ?r7 ?r8); (case r1 => rfl); (case r2 => rfl); (case r3 => rfl); (case r4 => rfl); (case r5 => exact H5.out.there 214 _ (by decide)); (case r6 => kernel_rfl); (case r7 => exact one_hel z32 z32 0); have H6 : Hid (MM w ((((((w0.setCell ⟨w.heap.size, 208, none⟩ (.int .u32 2)).setCell ⟨w.heap.size, 209, none⟩ (.int .u32 1)).setCell ⟨w.heap.size, 212, none⟩ (.int .u32 (S.prev % 1000))).setCell ⟨w.heap.size, 210, none⟩ (.int .u32 (S.sent % 1000))).setCell ⟨w.heap.size, 213, none⟩ (.int .u32 (S.prev % 1000 + S.sent % 1000 + S.ser % 1000))).setCells w.heap.size 214 (hel z32 z32 0)) w.heap.size { S with own := 2, turns := 1, prev := S.prev % 1000, sent := S.sent % 1000, ser := (S.prev % 1000 + S.sent % 1000 + S.ser % 1000), hid := z32, ho := z32, hp := 0 }) := Lib.hid (H5.out.hello z32 z32 0 rfl rfl); change wpList _ _ _ _ _ ((((((w0.setCell ⟨w.heap.size, 208, none⟩ (.int .u32 2)).setCell ⟨w.heap.size, 209, none⟩ (.int .u32 1)).setCell ⟨w.heap.size, 212, none⟩ (.int .u32 (S.prev % 1000))).setCell ⟨w.heap.size, 210, none⟩ (.int .u32 (S.sent % 1000))).setCell ⟨w.heap.size, 213, none⟩ (.int .u32 (S.prev % 1000 + S.sent % 1000 + S.ser % 1000))).setCells w.heap.size 214 (hel z32 z32 0)); generalize (((((w0.setCell ⟨w.heap.size, 208, none⟩ (.int .u32 2)).setCell ⟨w.heap.size, 209, none⟩ (.int .u32 1)).setCell ⟨w.heap.size, 212, none⟩ (.int .u32 (S.prev % 1000))).setCell ⟨w.heap.size, 210, none⟩ (.int .u32 (S.sent % 1000))).setCell ⟨w.heap.size, 213, none⟩ (.int .u32 (S.prev % 1000 + S.sent % 1000 + S.ser % 1000))).setCells w.heap.size 214 (hel z32 z32 0) = W6 at *)
    | ((with_reducible refine wpList_load_row ?u1 45 (.tmp 2) ?u2 w.heap.size ?u3 45 ({ S with own := 2, turns := 1, prev := S.prev % 1000, sent := S.sent % 1000, ser := (S.prev % 1000 + S.sent % 1000 + S.ser % 1000), hid := z32, ho := z32, hp := 0 } : St).cl.toArray (0, 0) ?u4 ?u5 ?u6 ?u7 ?u8 ?u9); (case u1 => rfl); (case u2 => rfl); (case u3 => rfl); (case u5 => exact H6.out.s.hp); (case u6 => exact Try.underlying45); (case u7 => rfl); (case u8 => (rw [List.size_toArray, St.cl_len H6.out.s.ok]; kernel_rfl)); obtain ⟨bx, hbx⟩ := H6.out.box; have HBX := Lib.hid hbx; clear hbx)
    | ((with_reducible refine wpList_store_row ?x1 45 (.tmp 4) (.tmp 78) ?x2 (w.heap.size + 1) ({ S with own := 2, turns := 1, prev := S.prev % 1000, sent := S.sent % 1000, ser := (S.prev % 1000 + S.sent % 1000 + S.ser % 1000), hid := z32, ho := z32, hp := 0 } : St).cl.toArray ?x3 ?x4 45 bx ?x5 ?x6 ?x7 ?x8 ?x9); (case x1 => rfl); (case x2 => rfl); go_must ((case x3 => rfl); (case x4 => rfl); (case x5 => exact HBX.out.2); (case x6 => (rw [List.size_toArray, St.cl_len H6.out.s.ok]; kernel_rfl)); (case x7 => (rw [HBX.out.1, List.size_toArray, St.cl_len H6.out.s.ok])); (case x8 => exact all_oneCell_toArray (St.cl_one _))))
    | fail)
  have r2 := setRow_heap W6 (w.heap.size + 1) _ ({ S with own := 2, turns := 1, prev := S.prev % 1000, sent := S.sent % 1000, ser := (S.prev % 1000 + S.sent % 1000 + S.ser % 1000), hid := z32, ho := z32, hp := 0 } : St).cl.toArray _ _ HBX.out.2
  have r1 := H6.out.k.trans (kp_setRow1 W6 (w.heap.size + 1) ({ S with own := 2, turns := 1, prev := S.prev % 1000, sent := S.sent % 1000, ser := (S.prev % 1000 + S.sent % 1000 + S.ser % 1000), hid := z32, ho := z32, hp := 0 } : St).cl.toArray) (fun m hm => by rw [List.mem_singleton] at hm; subst hm; exact .inr (by omega))
  exact bodyPost_ret (results_cell_row rfl _ _ (w.heap.size + 1) 45 _ (0, 0) _ rfl r2 Try.underlying45 rfl (by rw [List.size_toArray, St.cl_len H6.out.s.ok]; kernel_rfl)) rfl ⟨_, rfl, H6.out.s.ok, (by show (2 : Int) ≤ 3; decide), (by show (1 : Int) ≤ 4; decide), fine_21 _ H6.out.s.ok (by show (2 : Int) ≤ 2; decide) (by show (2 : Int) - 1 ≤ 1; decide) (by show (1 : Int) - 2 ≤ 1; decide) (by show (1 : Int) ≠ 0; decide) (by show S.sent % 1000 ≤ S.prev % 1000 + S.sent % 1000 + S.ser % 1000; omega) (by show S.prev % 1000 ≤ S.prev % 1000 + S.sent % 1000 + S.ser % 1000 - S.sent % 1000; omega) ⟨rfl, rfl, rfl⟩, r1⟩
set_option maxRecDepth 100000 in
set_option maxHeartbeats 2000000 in
theorem may_22 (S : St) (hS : S.ok) (w : World) (ho : S.own % 4 = 2) (ht : S.turns % 4 = 2) : Calls Try.prog 18 #[.agg S.cl.toArray, .bool true] w (Mayd w) := by
  have HO := Lib.hid hS
  obtain ⟨w0, hw0⟩ : ∃ w0, w0 = (w.alloc (.cells S.cl.toArray 45)).alloc (.cells Try.zeroCells45 45) := ⟨_, rfl⟩
  have H0 : Hid (MM w w0 w.heap.size S) := Lib.hid (by rw [hw0]; exact mm_start w S hS _ (by kernel_rfl))
  have ho4 : S.own.tmod 4 = 2 := by rw [Int.tmod_eq_emod_of_nonneg hS.own.1]; exact ho
  have ht4 : S.turns.tmod 4 = 2 := by rw [Int.tmod_eq_emod_of_nonneg hS.turns.1]; exact ht
  clear ho ht
  have c208 : w0.cell? ⟨w.heap.size, 208, none⟩ = some (.int .u32 S.own) := H0.out.s.own
  have f208 : w0.frozen? ⟨w.heap.size, 208, none⟩ = false := H0.out.s.free 208
  have c209 : w0.cell? ⟨w.heap.size, 209, none⟩ = some (.int .u32 S.turns) := H0.out.s.turns
  have f209 : w0.frozen? ⟨w.heap.size, 209, none⟩ = false := H0.out.s.free 209
  have c210 : w0.cell? ⟨w.heap.size, 210, none⟩ = some (.int .u32 S.sent) := H0.out.s.sent
  have f210 : w0.frozen? ⟨w.heap.size, 210, none⟩ = false := H0.out.s.free 210
  have c212 : w0.cell? ⟨w.heap.size, 212, none⟩ = some (.int .u32 S.prev) := H0.out.s.prev
  have f212 : w0.frozen? ⟨w.heap.size, 212, none⟩ = false := H0.out.s.free 212
  have c213 : w0.cell? ⟨w.heap.size, 213, none⟩ = some (.int .u32 S.ser) := H0.out.s.ser
  have f213 : w0.frozen? ⟨w.heap.size, 213, none⟩ = false := H0.out.s.free 213
  have H1 : Hid (MM w ((w0.setCell ⟨w.heap.size, 208, none⟩ (.int .u32 2)).setCell ⟨w.heap.size, 209, none⟩ (.int .u32 2)) w.heap.size { S with own := 2, turns := 2 }) := Lib.hid ((H0.out.own 2 ⟨by decide, by decide⟩).turns 2 ⟨by decide, by decide⟩)
  have rprev : S.prev.tmod 1000 = S.prev % 1000 := Int.tmod_eq_emod_of_nonneg hS.prev.1
  have rsent : S.sent.tmod 1000 = S.sent % 1000 := Int.tmod_eq_emod_of_nonneg hS.sent.1
  have rser : S.ser.tmod 1000 = S.ser % 1000 := Int.tmod_eq_emod_of_nonneg hS.ser.1
  have v1 : IntKind.u32.wrap (S.prev % 1000 + S.sent % 1000) = S.prev % 1000 + S.sent % 1000 := by rw [IntKind.wrap_u32]; omega
  have v2 : IntKind.u32.wrap (S.prev % 1000 + S.sent % 1000 + S.ser % 1000) = S.prev % 1000 + S.sent % 1000 + S.ser % 1000 := by rw [IntKind.wrap_u32]; omega
  go_enter Try.func18, Try.ntmps18
  go_wp2_with (first
    | (rw [← hw0]; clear hw0)
    | ((with_reducible show wpList _ _ _ ({ dst := none, op := Op.store _ (.tmp 77) (.tmp 76), type := _, pos := _, after := _, guard := _ } :: _) _ _); have H5 : Hid (MM w (((((w0.setCell ⟨w.heap.size, 208, none⟩ (.int .u32 2)).setCell ⟨w.heap.size, 209, none⟩ (.int .u32 2)).setCell ⟨w.heap.size, 212, none⟩ (.int .u32 (S.prev % 1000))).setCell ⟨w.heap.size, 210, none⟩ (.int .u32 (S.sent % 1000))).setCell ⟨w.heap.size, 213, none⟩ (.int .u32 (S.prev % 1000 + S.sent % 1000 + S.ser % 1000))) w.heap.size { S with own := 2, turns := 2, prev := S.prev % 1000, sent := S.sent % 1000, ser := (S.prev % 1000 + S.sent % 1000 + S.ser % 1000) }) := Lib.hid (((H1.out.prev (S.prev % 1000) ⟨by omega, by omega⟩).sent (S.sent % 1000) ⟨by omega, by omega⟩).ser (S.prev % 1000 + S.sent % 1000 + S.ser % 1000) ⟨by omega, by omega⟩); (with_reducible refine wpList_store_mid ?r1 42 (.tmp 77) (.tmp 76) ?r2 w.heap.size 214 ((hel z32 z32 0).toArray) ?r3 ?r4 ?r5 ?r6 ?r7 ?r8); (case r1 => rfl); (case r2 => rfl); (case r3 => rfl); (case r4 => rfl); (case r5 => exact H5.out.there 214 _ (by decide)); (case r6 => kernel_rfl); (case r7 => exact one_hel z32 z32 0); have H6 : Hid (MM w ((((((w0.setCell ⟨w.heap.size, 208, none⟩ (.int .u32 2)).setCell ⟨w.heap.size, 209, none⟩ (.int .u32 2)).setCell ⟨w.heap.size, 212, none⟩ (.int .u32 (S.prev % 1000))).setCell ⟨w.heap.size, 210, none⟩ (.int .u32 (S.sent % 1000))).setCell ⟨w.heap.size, 213, none⟩ (.int .u32 (S.prev % 1000 + S.sent % 1000 + S.ser % 1000))).setCells w.heap.size 214 (hel z32 z32 0)) w.heap.size { S with own := 2, turns := 2, prev := S.prev % 1000, sent := S.sent % 1000, ser := (S.prev % 1000 + S.sent % 1000 + S.ser % 1000), hid := z32, ho := z32, hp := 0 }) := Lib.hid (H5.out.hello z32 z32 0 rfl rfl); change wpList _ _ _ _ _ ((((((w0.setCell ⟨w.heap.size, 208, none⟩ (.int .u32 2)).setCell ⟨w.heap.size, 209, none⟩ (.int .u32 2)).setCell ⟨w.heap.size, 212, none⟩ (.int .u32 (S.prev % 1000))).setCell ⟨w.heap.size, 210, none⟩ (.int .u32 (S.sent % 1000))).setCell ⟨w.heap.size, 213, none⟩ (.int .u32 (S.prev % 1000 + S.sent % 1000 + S.ser % 1000))).setCells w.heap.size 214 (hel z32 z32 0)); generalize (((((w0.setCell ⟨w.heap.size, 208, none⟩ (.int .u32 2)).setCell ⟨w.heap.size, 209, none⟩ (.int .u32 2)).setCell ⟨w.heap.size, 212, none⟩ (.int .u32 (S.prev % 1000))).setCell ⟨w.heap.size, 210, none⟩ (.int .u32 (S.sent % 1000))).setCell ⟨w.heap.size, 213, none⟩ (.int .u32 (S.prev % 1000 + S.sent % 1000 + S.ser % 1000))).setCells w.heap.size 214 (hel z32 z32 0) = W6 at *)
    | ((with_reducible refine wpList_load_row ?u1 45 (.tmp 2) ?u2 w.heap.size ?u3 45 ({ S with own := 2, turns := 2, prev := S.prev % 1000, sent := S.sent % 1000, ser := (S.prev % 1000 + S.sent % 1000 + S.ser % 1000), hid := z32, ho := z32, hp := 0 } : St).cl.toArray (0, 0) ?u4 ?u5 ?u6 ?u7 ?u8 ?u9); (case u1 => rfl); (case u2 => rfl); (case u3 => rfl); (case u5 => exact H6.out.s.hp); (case u6 => exact Try.underlying45); (case u7 => rfl); (case u8 => (rw [List.size_toArray, St.cl_len H6.out.s.ok]; kernel_rfl)); obtain ⟨bx, hbx⟩ := H6.out.box; have HBX := Lib.hid hbx; clear hbx)
    | ((with_reducible refine wpList_store_row ?x1 45 (.tmp 4) (.tmp 78) ?x2 (w.heap.size + 1) ({ S with own := 2, turns := 2, prev := S.prev % 1000, sent := S.sent % 1000, ser := (S.prev % 1000 + S.sent % 1000 + S.ser % 1000), hid := z32, ho := z32, hp := 0 } : St).cl.toArray ?x3 ?x4 45 bx ?x5 ?x6 ?x7 ?x8 ?x9); (case x1 => rfl); (case x2 => rfl); go_must ((case x3 => rfl); (case x4 => rfl); (case x5 => exact HBX.out.2); (case x6 => (rw [List.size_toArray, St.cl_len H6.out.s.ok]; kernel_rfl)); (case x7 => (rw [HBX.out.1, List.size_toArray, St.cl_len H6.out.s.ok])); (case x8 => exact all_oneCell_toArray (St.cl_one _))))
    | fail)
  have r2 := setRow_heap W6 (w.heap.size + 1) _ ({ S with own := 2, turns := 2, prev := S.prev % 1000, sent := S.sent % 1000, ser := (S.prev % 1000 + S.sent % 1000 + S.ser % 1000), hid := z32, ho := z32, hp := 0 } : St).cl.toArray _ _ HBX.out.2
  have r1 := H6.out.k.trans (kp_setRow1 W6 (w.heap.size + 1) ({ S with own := 2, turns := 2, prev := S.prev % 1000, sent := S.sent % 1000, ser := (S.prev % 1000 + S.sent % 1000 + S.ser % 1000), hid := z32, ho := z32, hp := 0 } : St).cl.toArray) (fun m hm => by rw [List.mem_singleton] at hm; subst hm; exact .inr (by omega))
  exact bodyPost_ret (results_cell_row rfl _ _ (w.heap.size + 1) 45 _ (0, 0) _ rfl r2 Try.underlying45 rfl (by rw [List.size_toArray, St.cl_len H6.out.s.ok]; kernel_rfl)) rfl ⟨_, rfl, H6.out.s.ok, (by show (2 : Int) ≤ 3; decide), (by show (2 : Int) ≤ 4; decide), fine_21 _ H6.out.s.ok (by show (2 : Int) ≤ 2; decide) (by show (2 : Int) - 2 ≤ 1; decide) (by show (2 : Int) - 2 ≤ 1; decide) (by show (2 : Int) ≠ 0; decide) (by show S.sent % 1000 ≤ S.prev % 1000 + S.sent % 1000 + S.ser % 1000; omega) (by show S.prev % 1000 ≤ S.prev % 1000 + S.sent % 1000 + S.ser % 1000 - S.sent % 1000; omega) ⟨rfl, rfl, rfl⟩, r1⟩
set_option maxRecDepth 100000 in
set_option maxHeartbeats 2000000 in
theorem may_23 (S : St) (hS : S.ok) (w : World) (ho : S.own % 4 = 2) (ht : S.turns % 4 = 3) : Calls Try.prog 18 #[.agg S.cl.toArray, .bool true] w (Mayd w) := by
  have HO := Lib.hid hS
  obtain ⟨w0, hw0⟩ : ∃ w0, w0 = (w.alloc (.cells S.cl.toArray 45)).alloc (.cells Try.zeroCells45 45) := ⟨_, rfl⟩
  have H0 : Hid (MM w w0 w.heap.size S) := Lib.hid (by rw [hw0]; exact mm_start w S hS _ (by kernel_rfl))
  have ho4 : S.own.tmod 4 = 2 := by rw [Int.tmod_eq_emod_of_nonneg hS.own.1]; exact ho
  have ht4 : S.turns.tmod 4 = 3 := by rw [Int.tmod_eq_emod_of_nonneg hS.turns.1]; exact ht
  clear ho ht
  have c208 : w0.cell? ⟨w.heap.size, 208, none⟩ = some (.int .u32 S.own) := H0.out.s.own
  have f208 : w0.frozen? ⟨w.heap.size, 208, none⟩ = false := H0.out.s.free 208
  have c209 : w0.cell? ⟨w.heap.size, 209, none⟩ = some (.int .u32 S.turns) := H0.out.s.turns
  have f209 : w0.frozen? ⟨w.heap.size, 209, none⟩ = false := H0.out.s.free 209
  have c210 : w0.cell? ⟨w.heap.size, 210, none⟩ = some (.int .u32 S.sent) := H0.out.s.sent
  have f210 : w0.frozen? ⟨w.heap.size, 210, none⟩ = false := H0.out.s.free 210
  have c212 : w0.cell? ⟨w.heap.size, 212, none⟩ = some (.int .u32 S.prev) := H0.out.s.prev
  have f212 : w0.frozen? ⟨w.heap.size, 212, none⟩ = false := H0.out.s.free 212
  have c213 : w0.cell? ⟨w.heap.size, 213, none⟩ = some (.int .u32 S.ser) := H0.out.s.ser
  have f213 : w0.frozen? ⟨w.heap.size, 213, none⟩ = false := H0.out.s.free 213
  have H1 : Hid (MM w ((w0.setCell ⟨w.heap.size, 208, none⟩ (.int .u32 2)).setCell ⟨w.heap.size, 209, none⟩ (.int .u32 3)) w.heap.size { S with own := 2, turns := 3 }) := Lib.hid ((H0.out.own 2 ⟨by decide, by decide⟩).turns 3 ⟨by decide, by decide⟩)
  have rprev : S.prev.tmod 1000 = S.prev % 1000 := Int.tmod_eq_emod_of_nonneg hS.prev.1
  have rsent : S.sent.tmod 1000 = S.sent % 1000 := Int.tmod_eq_emod_of_nonneg hS.sent.1
  have rser : S.ser.tmod 1000 = S.ser % 1000 := Int.tmod_eq_emod_of_nonneg hS.ser.1
  have v1 : IntKind.u32.wrap (S.prev % 1000 + S.sent % 1000) = S.prev % 1000 + S.sent % 1000 := by rw [IntKind.wrap_u32]; omega
  have v2 : IntKind.u32.wrap (S.prev % 1000 + S.sent % 1000 + S.ser % 1000) = S.prev % 1000 + S.sent % 1000 + S.ser % 1000 := by rw [IntKind.wrap_u32]; omega
  go_enter Try.func18, Try.ntmps18
  go_wp2_with (first
    | (rw [← hw0]; clear hw0)
    | ((with_reducible show wpList _ _ _ ({ dst := none, op := Op.store _ (.tmp 77) (.tmp 76), type := _, pos := _, after := _, guard := _ } :: _) _ _); have H5 : Hid (MM w (((((w0.setCell ⟨w.heap.size, 208, none⟩ (.int .u32 2)).setCell ⟨w.heap.size, 209, none⟩ (.int .u32 3)).setCell ⟨w.heap.size, 212, none⟩ (.int .u32 (S.prev % 1000))).setCell ⟨w.heap.size, 210, none⟩ (.int .u32 (S.sent % 1000))).setCell ⟨w.heap.size, 213, none⟩ (.int .u32 (S.prev % 1000 + S.sent % 1000 + S.ser % 1000))) w.heap.size { S with own := 2, turns := 3, prev := S.prev % 1000, sent := S.sent % 1000, ser := (S.prev % 1000 + S.sent % 1000 + S.ser % 1000) }) := Lib.hid (((H1.out.prev (S.prev % 1000) ⟨by omega, by omega⟩).sent (S.sent % 1000) ⟨by omega, by omega⟩).ser (S.prev % 1000 + S.sent % 1000 + S.ser % 1000) ⟨by omega, by omega⟩); (with_reducible refine wpList_store_mid ?r1 42 (.tmp 77) (.tmp 76) ?r2 w.heap.size 214 ((hel z32 z32 0).toArray) ?r3 ?r4 ?r5 ?r6 ?r7 ?r8); (case r1 => rfl); (case r2 => rfl); (case r3 => rfl); (case r4 => rfl); (case r5 => exact H5.out.there 214 _ (by decide)); (case r6 => kernel_rfl); (case r7 => exact one_hel z32 z32 0); have H6 : Hid (MM w ((((((w0.setCell ⟨w.heap.size, 208, none⟩ (.int .u32 2)).setCell ⟨w.heap.size, 209, none⟩ (.int .u32 3)).setCell ⟨w.heap.size, 212, none⟩ (.int .u32 (S.prev % 1000))).setCell ⟨w.heap.size, 210, none⟩ (.int .u32 (S.sent % 1000))).setCell ⟨w.heap.size, 213, none⟩ (.int .u32 (S.prev % 1000 + S.sent % 1000 + S.ser % 1000))).setCells w.heap.size 214 (hel z32 z32 0)) w.heap.size { S with own := 2, turns := 3, prev := S.prev % 1000, sent := S.sent % 1000, ser := (S.prev % 1000 + S.sent % 1000 + S.ser % 1000), hid := z32, ho := z32, hp := 0 }) := Lib.hid (H5.out.hello z32 z32 0 rfl rfl); change wpList _ _ _ _ _ ((((((w0.setCell ⟨w.heap.size, 208, none⟩ (.int .u32 2)).setCell ⟨w.heap.size, 209, none⟩ (.int .u32 3)).setCell ⟨w.heap.size, 212, none⟩ (.int .u32 (S.prev % 1000))).setCell ⟨w.heap.size, 210, none⟩ (.int .u32 (S.sent % 1000))).setCell ⟨w.heap.size, 213, none⟩ (.int .u32 (S.prev % 1000 + S.sent % 1000 + S.ser % 1000))).setCells w.heap.size 214 (hel z32 z32 0)); generalize (((((w0.setCell ⟨w.heap.size, 208, none⟩ (.int .u32 2)).setCell ⟨w.heap.size, 209, none⟩ (.int .u32 3)).setCell ⟨w.heap.size, 212, none⟩ (.int .u32 (S.prev % 1000))).setCell ⟨w.heap.size, 210, none⟩ (.int .u32 (S.sent % 1000))).setCell ⟨w.heap.size, 213, none⟩ (.int .u32 (S.prev % 1000 + S.sent % 1000 + S.ser % 1000))).setCells w.heap.size 214 (hel z32 z32 0) = W6 at *)
    | ((with_reducible refine wpList_load_row ?u1 45 (.tmp 2) ?u2 w.heap.size ?u3 45 ({ S with own := 2, turns := 3, prev := S.prev % 1000, sent := S.sent % 1000, ser := (S.prev % 1000 + S.sent % 1000 + S.ser % 1000), hid := z32, ho := z32, hp := 0 } : St).cl.toArray (0, 0) ?u4 ?u5 ?u6 ?u7 ?u8 ?u9); (case u1 => rfl); (case u2 => rfl); (case u3 => rfl); (case u5 => exact H6.out.s.hp); (case u6 => exact Try.underlying45); (case u7 => rfl); (case u8 => (rw [List.size_toArray, St.cl_len H6.out.s.ok]; kernel_rfl)); obtain ⟨bx, hbx⟩ := H6.out.box; have HBX := Lib.hid hbx; clear hbx)
    | ((with_reducible refine wpList_store_row ?x1 45 (.tmp 4) (.tmp 78) ?x2 (w.heap.size + 1) ({ S with own := 2, turns := 3, prev := S.prev % 1000, sent := S.sent % 1000, ser := (S.prev % 1000 + S.sent % 1000 + S.ser % 1000), hid := z32, ho := z32, hp := 0 } : St).cl.toArray ?x3 ?x4 45 bx ?x5 ?x6 ?x7 ?x8 ?x9); (case x1 => rfl); (case x2 => rfl); go_must ((case x3 => rfl); (case x4 => rfl); (case x5 => exact HBX.out.2); (case x6 => (rw [List.size_toArray, St.cl_len H6.out.s.ok]; kernel_rfl)); (case x7 => (rw [HBX.out.1, List.size_toArray, St.cl_len H6.out.s.ok])); (case x8 => exact all_oneCell_toArray (St.cl_one _))))
    | fail)
  have r2 := setRow_heap W6 (w.heap.size + 1) _ ({ S with own := 2, turns := 3, prev := S.prev % 1000, sent := S.sent % 1000, ser := (S.prev % 1000 + S.sent % 1000 + S.ser % 1000), hid := z32, ho := z32, hp := 0 } : St).cl.toArray _ _ HBX.out.2
  have r1 := H6.out.k.trans (kp_setRow1 W6 (w.heap.size + 1) ({ S with own := 2, turns := 3, prev := S.prev % 1000, sent := S.sent % 1000, ser := (S.prev % 1000 + S.sent % 1000 + S.ser % 1000), hid := z32, ho := z32, hp := 0 } : St).cl.toArray) (fun m hm => by rw [List.mem_singleton] at hm; subst hm; exact .inr (by omega))
  exact bodyPost_ret (results_cell_row rfl _ _ (w.heap.size + 1) 45 _ (0, 0) _ rfl r2 Try.underlying45 rfl (by rw [List.size_toArray, St.cl_len H6.out.s.ok]; kernel_rfl)) rfl ⟨_, rfl, H6.out.s.ok, (by show (2 : Int) ≤ 3; decide), (by show (3 : Int) ≤ 4; decide), fine_21 _ H6.out.s.ok (by show (2 : Int) ≤ 2; decide) (by show (2 : Int) - 3 ≤ 1; decide) (by show (3 : Int) - 2 ≤ 1; decide) (by show (3 : Int) ≠ 0; decide) (by show S.sent % 1000 ≤ S.prev % 1000 + S.sent % 1000 + S.ser % 1000; omega) (by show S.prev % 1000 ≤ S.prev % 1000 + S.sent % 1000 + S.ser % 1000 - S.sent % 1000; omega) ⟨rfl, rfl, rfl⟩, r1⟩
set_option maxRecDepth 100000 in
set_option maxHeartbeats 2000000 in
theorem may_30 (S : St) (hS : S.ok) (w : World) (ho : S.own % 4 = 3) (ht : S.turns % 4 = 0) : Calls Try.prog 18 #[.agg S.cl.toArray, .bool true] w (Mayd w) := by
  have HO := Lib.hid hS
  obtain ⟨w0, hw0⟩ : ∃ w0, w0 = (w.alloc (.cells S.cl.toArray 45)).alloc (.cells Try.zeroCells45 45) := ⟨_, rfl⟩
  have H0 : Hid (MM w w0 w.heap.size S) := Lib.hid (by rw [hw0]; exact mm_start w S hS _ (by kernel_rfl))
  have ho4 : S.own.tmod 4 = 3 := by rw [Int.tmod_eq_emod_of_nonneg hS.own.1]; exact ho
  have ht4 : S.turns.tmod 4 = 0 := by rw [Int.tmod_eq_emod_of_nonneg hS.turns.1]; exact ht
  clear ho ht
  have c208 : w0.cell? ⟨w.heap.size, 208, none⟩ = some (.int .u32 S.own) := H0.out.s.own
  have f208 : w0.frozen? ⟨w.heap.size, 208, none⟩ = false := H0.out.s.free 208
  have c209 : w0.cell? ⟨w.heap.size, 209, none⟩ = some (.int .u32 S.turns) := H0.out.s.turns
  have f209 : w0.frozen? ⟨w.heap.size, 209, none⟩ = false := H0.out.s.free 209
  have c210 : w0.cell? ⟨w.heap.size, 210, none⟩ = some (.int .u32 S.sent) := H0.out.s.sent
  have f210 : w0.frozen? ⟨w.heap.size, 210, none⟩ = false := H0.out.s.free 210
  have c212 : w0.cell? ⟨w.heap.size, 212, none⟩ = some (.int .u32 S.prev) := H0.out.s.prev
  have f212 : w0.frozen? ⟨w.heap.size, 212, none⟩ = false := H0.out.s.free 212
  have c213 : w0.cell? ⟨w.heap.size, 213, none⟩ = some (.int .u32 S.ser) := H0.out.s.ser
  have f213 : w0.frozen? ⟨w.heap.size, 213, none⟩ = false := H0.out.s.free 213
  have H1 : Hid (MM w ((w0.setCell ⟨w.heap.size, 208, none⟩ (.int .u32 3)).setCell ⟨w.heap.size, 209, none⟩ (.int .u32 2)) w.heap.size { S with own := 3, turns := 2 }) := Lib.hid ((H0.out.own 3 ⟨by decide, by decide⟩).turns 2 ⟨by decide, by decide⟩)
  have rprev : S.prev.tmod 1000 = S.prev % 1000 := Int.tmod_eq_emod_of_nonneg hS.prev.1
  have rsent : S.sent.tmod 1000 = S.sent % 1000 := Int.tmod_eq_emod_of_nonneg hS.sent.1
  have rser : S.ser.tmod 1000 = S.ser % 1000 := Int.tmod_eq_emod_of_nonneg hS.ser.1
  have v1 : IntKind.u32.wrap (S.prev % 1000 + S.sent % 1000) = S.prev % 1000 + S.sent % 1000 := by rw [IntKind.wrap_u32]; omega
  have v2 : IntKind.u32.wrap (S.prev % 1000 + S.sent % 1000 + S.ser % 1000) = S.prev % 1000 + S.sent % 1000 + S.ser % 1000 := by rw [IntKind.wrap_u32]; omega
  go_enter Try.func18, Try.ntmps18
  go_wp2_with (first
    | (rw [← hw0]; clear hw0)
    | ((with_reducible show wpList _ _ _ ({ dst := none, op := Op.store _ (.tmp 77) (.tmp 76), type := _, pos := _, after := _, guard := _ } :: _) _ _); have H5 : Hid (MM w (((((w0.setCell ⟨w.heap.size, 208, none⟩ (.int .u32 3)).setCell ⟨w.heap.size, 209, none⟩ (.int .u32 2)).setCell ⟨w.heap.size, 212, none⟩ (.int .u32 (S.prev % 1000))).setCell ⟨w.heap.size, 210, none⟩ (.int .u32 (S.sent % 1000))).setCell ⟨w.heap.size, 213, none⟩ (.int .u32 (S.prev % 1000 + S.sent % 1000 + S.ser % 1000))) w.heap.size { S with own := 3, turns := 2, prev := S.prev % 1000, sent := S.sent % 1000, ser := (S.prev % 1000 + S.sent % 1000 + S.ser % 1000) }) := Lib.hid (((H1.out.prev (S.prev % 1000) ⟨by omega, by omega⟩).sent (S.sent % 1000) ⟨by omega, by omega⟩).ser (S.prev % 1000 + S.sent % 1000 + S.ser % 1000) ⟨by omega, by omega⟩); (with_reducible refine wpList_store_mid ?r1 42 (.tmp 77) (.tmp 76) ?r2 w.heap.size 214 ((hel z32 z32 0).toArray) ?r3 ?r4 ?r5 ?r6 ?r7 ?r8); (case r1 => rfl); (case r2 => rfl); (case r3 => rfl); (case r4 => rfl); (case r5 => exact H5.out.there 214 _ (by decide)); (case r6 => kernel_rfl); (case r7 => exact one_hel z32 z32 0); have H6 : Hid (MM w ((((((w0.setCell ⟨w.heap.size, 208, none⟩ (.int .u32 3)).setCell ⟨w.heap.size, 209, none⟩ (.int .u32 2)).setCell ⟨w.heap.size, 212, none⟩ (.int .u32 (S.prev % 1000))).setCell ⟨w.heap.size, 210, none⟩ (.int .u32 (S.sent % 1000))).setCell ⟨w.heap.size, 213, none⟩ (.int .u32 (S.prev % 1000 + S.sent % 1000 + S.ser % 1000))).setCells w.heap.size 214 (hel z32 z32 0)) w.heap.size { S with own := 3, turns := 2, prev := S.prev % 1000, sent := S.sent % 1000, ser := (S.prev % 1000 + S.sent % 1000 + S.ser % 1000), hid := z32, ho := z32, hp := 0 }) := Lib.hid (H5.out.hello z32 z32 0 rfl rfl); change wpList _ _ _ _ _ ((((((w0.setCell ⟨w.heap.size, 208, none⟩ (.int .u32 3)).setCell ⟨w.heap.size, 209, none⟩ (.int .u32 2)).setCell ⟨w.heap.size, 212, none⟩ (.int .u32 (S.prev % 1000))).setCell ⟨w.heap.size, 210, none⟩ (.int .u32 (S.sent % 1000))).setCell ⟨w.heap.size, 213, none⟩ (.int .u32 (S.prev % 1000 + S.sent % 1000 + S.ser % 1000))).setCells w.heap.size 214 (hel z32 z32 0)); generalize (((((w0.setCell ⟨w.heap.size, 208, none⟩ (.int .u32 3)).setCell ⟨w.heap.size, 209, none⟩ (.int .u32 2)).setCell ⟨w.heap.size, 212, none⟩ (.int .u32 (S.prev % 1000))).setCell ⟨w.heap.size, 210, none⟩ (.int .u32 (S.sent % 1000))).setCell ⟨w.heap.size, 213, none⟩ (.int .u32 (S.prev % 1000 + S.sent % 1000 + S.ser % 1000))).setCells w.heap.size 214 (hel z32 z32 0) = W6 at *)
    | ((with_reducible refine wpList_load_row ?u1 45 (.tmp 2) ?u2 w.heap.size ?u3 45 ({ S with own := 3, turns := 2, prev := S.prev % 1000, sent := S.sent % 1000, ser := (S.prev % 1000 + S.sent % 1000 + S.ser % 1000), hid := z32, ho := z32, hp := 0 } : St).cl.toArray (0, 0) ?u4 ?u5 ?u6 ?u7 ?u8 ?u9); (case u1 => rfl); (case u2 => rfl); (case u3 => rfl); (case u5 => exact H6.out.s.hp); (case u6 => exact Try.underlying45); (case u7 => rfl); (case u8 => (rw [List.size_toArray, St.cl_len H6.out.s.ok]; kernel_rfl)); obtain ⟨bx, hbx⟩ := H6.out.box; have HBX := Lib.hid hbx; clear hbx)
    | ((with_reducible refine wpList_store_row ?x1 45 (.tmp 4) (.tmp 78) ?x2 (w.heap.size + 1) ({ S with own := 3, turns := 2, prev := S.prev % 1000, sent := S.sent % 1000, ser := (S.prev % 1000 + S.sent % 1000 + S.ser % 1000), hid := z32, ho := z32, hp := 0 } : St).cl.toArray ?x3 ?x4 45 bx ?x5 ?x6 ?x7 ?x8 ?x9); (case x1 => rfl); (case x2 => rfl); go_must ((case x3 => rfl); (case x4 => rfl); (case x5 => exact HBX.out.2); (case x6 => (rw [List.size_toArray, St.cl_len H6.out.s.ok]; kernel_rfl)); (case x7 => (rw [HBX.out.1, List.size_toArray, St.cl_len H6.out.s.ok])); (case x8 => exact all_oneCell_toArray (St.cl_one _))))
    | fail)
  have r2 := setRow_heap W6 (w.heap.size + 1) _ ({ S with own := 3, turns := 2, prev := S.prev % 1000, sent := S.sent % 1000, ser := (S.prev % 1000 + S.sent % 1000 + S.ser % 1000), hid := z32, ho := z32, hp := 0 } : St).cl.toArray _ _ HBX.out.2
  have r1 := H6.out.k.trans (kp_setRow1 W6 (w.heap.size + 1) ({ S with own := 3, turns := 2, prev := S.prev % 1000, sent := S.sent % 1000, ser := (S.prev % 1000 + S.sent % 1000 + S.ser % 1000), hid := z32, ho := z32, hp := 0 } : St).cl.toArray) (fun m hm => by rw [List.mem_singleton] at hm; subst hm; exact .inr (by omega))
  exact bodyPost_ret (results_cell_row rfl _ _ (w.heap.size + 1) 45 _ (0, 0) _ rfl r2 Try.underlying45 rfl (by rw [List.size_toArray, St.cl_len H6.out.s.ok]; kernel_rfl)) rfl ⟨_, rfl, H6.out.s.ok, (by show (3 : Int) ≤ 3; decide), (by show (2 : Int) ≤ 4; decide), fine_21 _ H6.out.s.ok (by show (2 : Int) ≤ 3; decide) (by show (3 : Int) - 2 ≤ 1; decide) (by show (2 : Int) - 3 ≤ 1; decide) (by show (2 : Int) ≠ 0; decide) (by show S.sent % 1000 ≤ S.prev % 1000 + S.sent % 1000 + S.ser % 1000; omega) (by show S.prev % 1000 ≤ S.prev % 1000 + S.sent % 1000 + S.ser % 1000 - S.sent % 1000; omega) ⟨rfl, rfl, rfl⟩, r1⟩
set_option maxRecDepth 100000 in
set_option maxHeartbeats 2000000 in
theorem may_31 (S : St) (hS : S.ok) (w : World) (ho : S.own % 4 = 3) (ht : S.turns % 4 = 1) : Calls Try.prog 18 #[.agg S.cl.toArray, .bool true] w (Mayd w) := by
  have HO := Lib.hid hS
  obtain ⟨w0, hw0⟩ : ∃ w0, w0 = (w.alloc (.cells S.cl.toArray 45)).alloc (.cells Try.zeroCells45 45) := ⟨_, rfl⟩
  have H0 : Hid (MM w w0 w.heap.size S) := Lib.hid (by rw [hw0]; exact mm_start w S hS _ (by kernel_rfl))
  have ho4 : S.own.tmod 4 = 3 := by rw [Int.tmod_eq_emod_of_nonneg hS.own.1]; exact ho
  have ht4 : S.turns.tmod 4 = 1 := by rw [Int.tmod_eq_emod_of_nonneg hS.turns.1]; exact ht
  clear ho ht
  have c208 : w0.cell? ⟨w.heap.size, 208, none⟩ = some (.int .u32 S.own) := H0.out.s.own
  have f208 : w0.frozen? ⟨w.heap.size, 208, none⟩ = false := H0.out.s.free 208
  have c209 : w0.cell? ⟨w.heap.size, 209, none⟩ = some (.int .u32 S.turns) := H0.out.s.turns
  have f209 : w0.frozen? ⟨w.heap.size, 209, none⟩ = false := H0.out.s.free 209
  have c210 : w0.cell? ⟨w.heap.size, 210, none⟩ = some (.int .u32 S.sent) := H0.out.s.sent
  have f210 : w0.frozen? ⟨w.heap.size, 210, none⟩ = false := H0.out.s.free 210
  have c212 : w0.cell? ⟨w.heap.size, 212, none⟩ = some (.int .u32 S.prev) := H0.out.s.prev
  have f212 : w0.frozen? ⟨w.heap.size, 212, none⟩ = false := H0.out.s.free 212
  have c213 : w0.cell? ⟨w.heap.size, 213, none⟩ = some (.int .u32 S.ser) := H0.out.s.ser
  have f213 : w0.frozen? ⟨w.heap.size, 213, none⟩ = false := H0.out.s.free 213
  have H1 : Hid (MM w ((w0.setCell ⟨w.heap.size, 208, none⟩ (.int .u32 3)).setCell ⟨w.heap.size, 209, none⟩ (.int .u32 2)) w.heap.size { S with own := 3, turns := 2 }) := Lib.hid ((H0.out.own 3 ⟨by decide, by decide⟩).turns 2 ⟨by decide, by decide⟩)
  have rprev : S.prev.tmod 1000 = S.prev % 1000 := Int.tmod_eq_emod_of_nonneg hS.prev.1
  have rsent : S.sent.tmod 1000 = S.sent % 1000 := Int.tmod_eq_emod_of_nonneg hS.sent.1
  have rser : S.ser.tmod 1000 = S.ser % 1000 := Int.tmod_eq_emod_of_nonneg hS.ser.1
  have v1 : IntKind.u32.wrap (S.prev % 1000 + S.sent % 1000) = S.prev % 1000 + S.sent % 1000 := by rw [IntKind.wrap_u32]; omega
  have v2 : IntKind.u32.wrap (S.prev % 1000 + S.sent % 1000 + S.ser % 1000) = S.prev % 1000 + S.sent % 1000 + S.ser % 1000 := by rw [IntKind.wrap_u32]; omega
  go_enter Try.func18, Try.ntmps18
  go_wp2_with (first
    | (rw [← hw0]; clear hw0)
    | ((with_reducible show wpList _ _ _ ({ dst := none, op := Op.store _ (.tmp 77) (.tmp 76), type := _, pos := _, after := _, guard := _ } :: _) _ _); have H5 : Hid (MM w (((((w0.setCell ⟨w.heap.size, 208, none⟩ (.int .u32 3)).setCell ⟨w.heap.size, 209, none⟩ (.int .u32 2)).setCell ⟨w.heap.size, 212, none⟩ (.int .u32 (S.prev % 1000))).setCell ⟨w.heap.size, 210, none⟩ (.int .u32 (S.sent % 1000))).setCell ⟨w.heap.size, 213, none⟩ (.int .u32 (S.prev % 1000 + S.sent % 1000 + S.ser % 1000))) w.heap.size { S with own := 3, turns := 2, prev := S.prev % 1000, sent := S.sent % 1000, ser := (S.prev % 1000 + S.sent % 1000 + S.ser % 1000) }) := Lib.hid (((H1.out.prev (S.prev % 1000) ⟨by omega, by omega⟩).sent (S.sent % 1000) ⟨by omega, by omega⟩).ser (S.prev % 1000 + S.sent % 1000 + S.ser % 1000) ⟨by omega, by omega⟩); (with_reducible refine wpList_store_mid ?r1 42 (.tmp 77) (.tmp 76) ?r2 w.heap.size 214 ((hel z32 z32 0).toArray) ?r3 ?r4 ?r5 ?r6 ?r7 ?r8); (case r1 => rfl); (case r2 => rfl); (case r3 => rfl); (case r4 => rfl); (case r5 => exact H5.out.there 214 _ (by decide)); (case r6 => kernel_rfl); (case r7 => exact one_hel z32 z32 0); have H6 : Hid (MM w ((((((w0.setCell ⟨w.heap.size, 208, none⟩ (.int .u32 3)).setCell ⟨w.heap.size, 209, none⟩ (.int .u32 2)).setCell ⟨w.heap.size, 212, none⟩ (.int .u32 (S.prev % 1000))).setCell ⟨w.heap.size, 210, none⟩ (.int .u32 (S.sent % 1000))).setCell ⟨w.heap.size, 213, none⟩ (.int .u32 (S.prev % 1000 + S.sent % 1000 + S.ser % 1000))).setCells w.heap.size 214 (hel z32 z32 0)) w.heap.size { S with own := 3, turns := 2, prev := S.prev % 1000, sent := S.sent % 1000, ser := (S.prev % 1000 + S.sent % 1000 + S.ser % 1000), hid := z32, ho := z32, hp := 0 }) := Lib.hid (H5.out.hello z32 z32 0 rfl rfl); change wpList _ _ _ _ _ ((((((w0.setCell ⟨w.heap.size, 208, none⟩ (.int .u32 3)).setCell ⟨w.heap.size, 209, none⟩ (.int .u32 2)).setCell ⟨w.heap.size, 212, none⟩ (.int .u32 (S.prev % 1000))).setCell ⟨w.heap.size, 210, none⟩ (.int .u32 (S.sent % 1000))).setCell ⟨w.heap.size, 213, none⟩ (.int .u32 (S.prev % 1000 + S.sent % 1000 + S.ser % 1000))).setCells w.heap.size 214 (hel z32 z32 0)); generalize (((((w0.setCell ⟨w.heap.size, 208, none⟩ (.int .u32 3)).setCell ⟨w.heap.size, 209, none⟩ (.int .u32 2)).setCell ⟨w.heap.size, 212, none⟩ (.int .u32 (S.prev % 1000))).setCell ⟨w.heap.size, 210, none⟩ (.int .u32 (S.sent % 1000))).setCell ⟨w.heap.size, 213, none⟩ (.int .u32 (S.prev % 1000 + S.sent % 1000 + S.ser % 1000))).setCells w.heap.size 214 (hel z32 z32 0) = W6 at *)
    | ((with_reducible refine wpList_load_row ?u1 45 (.tmp 2) ?u2 w.heap.size ?u3 45 ({ S with own := 3, turns := 2, prev := S.prev % 1000, sent := S.sent % 1000, ser := (S.prev % 1000 + S.sent % 1000 + S.ser % 1000), hid := z32, ho := z32, hp := 0 } : St).cl.toArray (0, 0) ?u4 ?u5 ?u6 ?u7 ?u8 ?u9); (case u1 => rfl); (case u2 => rfl); (case u3 => rfl); (case u5 => exact H6.out.s.hp); (case u6 => exact Try.underlying45); (case u7 => rfl); (case u8 => (rw [List.size_toArray, St.cl_len H6.out.s.ok]; kernel_rfl)); obtain ⟨bx, hbx⟩ := H6.out.box; have HBX := Lib.hid hbx; clear hbx)
    | ((with_reducible refine wpList_store_row ?x1 45 (.tmp 4) (.tmp 78) ?x2 (w.heap.size + 1) ({ S with own := 3, turns := 2, prev := S.prev % 1000, sent := S.sent % 1000, ser := (S.prev % 1000 + S.sent % 1000 + S.ser % 1000), hid := z32, ho := z32, hp := 0 } : St).cl.toArray ?x3 ?x4 45 bx ?x5 ?x6 ?x7 ?x8 ?x9); (case x1 => rfl); (case x2 => rfl); go_must ((case x3 => rfl); (case x4 => rfl); (case x5 => exact HBX.out.2); (case x6 => (rw [List.size_toArray, St.cl_len H6.out.s.ok]; kernel_rfl)); (case x7 => (rw [HBX.out.1, List.size_toArray, St.cl_len H6.out.s.ok])); (case x8 => exact all_oneCell_toArray (St.cl_one _))))
    | fail)
  have r2 := setRow_heap W6 (w.heap.size + 1) _ ({ S with own := 3, turns := 2, prev := S.prev % 1000, sent := S.sent % 1000, ser := (S.prev % 1000 + S.sent % 1000 + S.ser % 1000), hid := z32, ho := z32, hp := 0 } : St).cl.toArray _ _ HBX.out.2
  have r1 := H6.out.k.trans (kp_setRow1 W6 (w.heap.size + 1) ({ S with own := 3, turns := 2, prev := S.prev % 1000, sent := S.sent % 1000, ser := (S.prev % 1000 + S.sent % 1000 + S.ser % 1000), hid := z32, ho := z32, hp := 0 } : St).cl.toArray) (fun m hm => by rw [List.mem_singleton] at hm; subst hm; exact .inr (by omega))
  exact bodyPost_ret (results_cell_row rfl _ _ (w.heap.size + 1) 45 _ (0, 0) _ rfl r2 Try.underlying45 rfl (by rw [List.size_toArray, St.cl_len H6.out.s.ok]; kernel_rfl)) rfl ⟨_, rfl, H6.out.s.ok, (by show (3 : Int) ≤ 3; decide), (by show (2 : Int) ≤ 4; decide), fine_21 _ H6.out.s.ok (by show (2 : Int) ≤ 3; decide) (by show (3 : Int) - 2 ≤ 1; decide) (by show (2 : Int) - 3 ≤ 1; decide) (by show (2 : Int) ≠ 0; decide) (by show S.sent % 1000 ≤ S.prev % 1000 + S.sent % 1000 + S.ser % 1000; omega) (by show S.prev % 1000 ≤ S.prev % 1000 + S.sent % 1000 + S.ser % 1000 - S.sent % 1000; omega) ⟨rfl, rfl, rfl⟩, r1⟩
set_option maxRecDepth 100000 in
set_option maxHeartbeats 2000000 in
theorem may_32 (S : St) (hS : S.ok) (w : World) (ho : S.own % 4 = 3) (ht : S.turns % 4 = 2) : Calls Try.prog 18 #[.agg S.cl.toArray, .bool true] w (Mayd w) := by
  have HO := Lib.hid hS
  obtain ⟨w0, hw0⟩ : ∃ w0, w0 = (w.alloc (.cells S.cl.toArray 45)).alloc (.cells Try.zeroCells45 45) := ⟨_, rfl⟩
  have H0 : Hid (MM w w0 w.heap.size S) := Lib.hid (by rw [hw0]; exact mm_start w S hS _ (by kernel_rfl))
  have ho4 : S.own.tmod 4 = 3 := by rw [Int.tmod_eq_emod_of_nonneg hS.own.1]; exact ho
  have ht4 : S.turns.tmod 4 = 2 := by rw [Int.tmod_eq_emod_of_nonneg hS.turns.1]; exact ht
  clear ho ht
  have c208 : w0.cell? ⟨w.heap.size, 208, none⟩ = some (.int .u32 S.own) := H0.out.s.own
  have f208 : w0.frozen? ⟨w.heap.size, 208, none⟩ = false := H0.out.s.free 208
  have c209 : w0.cell? ⟨w.heap.size, 209, none⟩ = some (.int .u32 S.turns) := H0.out.s.turns
  have f209 : w0.frozen? ⟨w.heap.size, 209, none⟩ = false := H0.out.s.free 209
  have c210 : w0.cell? ⟨w.heap.size, 210, none⟩ = some (.int .u32 S.sent) := H0.out.s.sent
  have f210 : w0.frozen? ⟨w.heap.size, 210, none⟩ = false := H0.out.s.free 210
  have c212 : w0.cell? ⟨w.heap.size, 212, none⟩ = some (.int .u32 S.prev) := H0.out.s.prev
  have f212 : w0.frozen? ⟨w.heap.size, 212, none⟩ = false := H0.out.s.free 212
  have c213 : w0.cell? ⟨w.heap.size, 213, none⟩ = some (.int .u32 S.ser) := H0.out.s.ser
  have f213 : w0.frozen? ⟨w.heap.size, 213, none⟩ = false := H0.out.s.free 213
  have H1 : Hid (MM w ((w0.setCell ⟨w.heap.size, 208, none⟩ (.int .u32 3)).setCell ⟨w.heap.size, 209, none⟩ (.int .u32 2)) w.heap.size { S with own := 3, turns := 2 }) := Lib.hid ((H0.out.own 3 ⟨by decide, by decide⟩).turns 2 ⟨by decide, by decide⟩)
  have rprev : S.prev.tmod 1000 = S.prev % 1000 := Int.tmod_eq_emod_of_nonneg hS.prev.1
  have rsent : S.sent.tmod 1000 = S.sent % 1000 := Int.tmod_eq_emod_of_nonneg hS.sent.1
  have rser : S.ser.tmod 1000 = S.ser % 1000 := Int.tmod_eq_emod_of_nonneg hS.ser.1
  have v1 : IntKind.u32.wrap (S.prev % 1000 + S.sent % 1000) = S.prev % 1000 + S.sent % 1000 := by rw [IntKind.wrap_u32]; omega
  have v2 : IntKind.u32.wrap (S.prev % 1000 + S.sent % 1000 + S.ser % 1000) = S.prev % 1000 + S.sent % 1000 + S.ser % 1000 := by rw [IntKind.wrap_u32]; omega
  go_enter Try.func18, Try.ntmps18
  go_wp2_with (first
    | (rw [← hw0]; clear hw0)
    | ((with_reducible show wpList _ _ _ ({ dst := none, op := Op.store _ (.tmp 77) (.tmp 76), type := _, pos := _, after := _, guard := _ } :: _) _ _); have H5 : Hid (MM w (((((w0.setCell ⟨w.heap.size, 208, none⟩ (.int .u32 3)).setCell ⟨w.heap.size, 209, none⟩ (.int .u32 2)).setCell ⟨w.heap.size, 212, none⟩ (.int .u32 (S.prev % 1000))).setCell ⟨w.heap.size, 210, none⟩ (.int .u32 (S.sent % 1000))).setCell ⟨w.heap.size, 213, none⟩ (.int .u32 (S.prev % 1000 + S.sent % 1000 + S.ser % 1000))) w.heap.size { S with own := 3, turns := 2, prev := S.prev % 1000, sent := S.sent % 1000, ser := (S.prev % 1000 + S.sent % 1000 + S.ser % 1000) }) := Lib.hid (((H1.out.prev (S.prev % 1000) ⟨by omega, by omega⟩).sent (S.sent % 1000) ⟨by omega, by omega⟩).ser (S.prev % 1000 + S.sent % 1000 + S.ser % 1000) ⟨by omega, by omega⟩); (with_reducible refine wpList_store_mid ?r1 42 (.tmp 77) (.tmp 76) ?r2 w.heap.size 214 ((hel z32 z32 0).toArray) ?r3 ?r4 ?r5 ?r6 ?r7 ?r8); (case r1 => rfl); (case r2 => rfl); (case r3 => rfl); (case r4 => rfl); (case r5 => exact H5.out.there 214 _ (by decide)); (case r6 => kernel_rfl); (case r7 => exact one_hel z32 z32 0); have H6 : Hid (MM w ((((((w0.setCell ⟨w.heap.size, 208, none⟩ (.int .u32 3)).setCell ⟨w.heap.size, 209, none⟩ (.int .u32 2)).setCell ⟨w.heap.size, 212, none⟩ (.int .u32 (S.prev % 1000))).setCell ⟨w.heap.size, 210, none⟩ (.int .u32 (S.sent % 1000))).setCell ⟨w.heap.size, 213, none⟩ (.int .u32 (S.prev % 1000 + S.sent % 1000 + S.ser % 1000))).setCells w.heap.size 214 (hel z32 z32 0)) w.heap.size { S with own := 3, turns := 2, prev := S.prev % 1000, sent := S.sent % 1000, ser := (S.prev % 1000 + S.sent % 1000 + S.ser % 1000), hid := z32, ho := z32, hp := 0 }) := Lib.hid (H5.out.hello z32 z32 0 rfl rfl); change wpList _ _ _ _ _ ((((((w0.setCell ⟨w.heap.size, 208, none⟩ (.int .u32 3)).setCell ⟨w.heap.size, 209, none⟩ (.int .u32 2)).setCell ⟨w.heap.size, 212, none⟩ (.int .u32 (S.prev % 1000))).setCell ⟨w.heap.size, 210, none⟩ (.int .u32 (S.sent % 1000))).setCell ⟨w.heap.size, 213, none⟩ (.int .u32 (S.prev % 1000 + S.sent % 1000 + S.ser % 1000))).setCells w.heap.size 214 (hel z32 z32 0)); generalize (((((w0.setCell ⟨w.heap.size, 208, none⟩ (.int .u32 3)).setCell ⟨w.heap.size, 209, none⟩ (.int .u32 2)).setCell ⟨w.heap.size, 212, none⟩ (.int .u32 (S.prev % 1000))).setCell ⟨w.heap.size, 210, none⟩ (.int .u32 (S.sent % 1000))).setCell ⟨w.heap.size, 213, none⟩ (.int .u32 (S.prev % 1000 + S.sent % 1000 + S.ser % 1000))).setCells w.heap.size 214 (hel z32 z32 0) = W6 at *)
    | ((with_reducible refine wpList_load_row ?u1 45 (.tmp 2) ?u2 w.heap.size ?u3 45 ({ S with own := 3, turns := 2, prev := S.prev % 1000, sent := S.sent % 1000, ser := (S.prev % 1000 + S.sent % 1000 + S.ser % 1000), hid := z32, ho := z32, hp := 0 } : St).cl.toArray (0, 0) ?u4 ?u5 ?u6 ?u7 ?u8 ?u9); (case u1 => rfl); (case u2 => rfl); (case u3 => rfl); (case u5 => exact H6.out.s.hp); (case u6 => exact Try.underlying45); (case u7 => rfl); (case u8 => (rw [List.size_toArray, St.cl_len H6.out.s.ok]; kernel_rfl)); obtain ⟨bx, hbx⟩ := H6.out.box; have HBX := Lib.hid hbx; clear hbx)
    | ((with_reducible refine wpList_store_row ?x1 45 (.tmp 4) (.tmp 78) ?x2 (w.heap.size + 1) ({ S with own := 3, turns := 2, prev := S.prev % 1000, sent := S.sent % 1000, ser := (S.prev % 1000 + S.sent % 1000 + S.ser % 1000), hid := z32, ho := z32, hp := 0 } : St).cl.toArray ?x3 ?x4 45 bx ?x5 ?x6 ?x7 ?x8 ?x9); (case x1 => rfl); (case x2 => rfl); go_must ((case x3 => rfl); (case x4 => rfl); (case x5 => exact HBX.out.2); (case x6 => (rw [List.size_toArray, St.cl_len H6.out.s.ok]; kernel_rfl)); (case x7 => (rw [HBX.out.1, List.size_toArray, St.cl_len H6.out.s.ok])); (case x8 => exact all_oneCell_toArray (St.cl_one _))))
    | fail)
  have r2 := setRow_heap W6 (w.heap.size + 1) _ ({ S with own := 3, turns := 2, prev := S.prev % 1000, sent := S.sent % 1000, ser := (S.prev % 1000 + S.sent % 1000 + S.ser % 1000), hid := z32, ho := z32, hp := 0 } : St).cl.toArray _ _ HBX.out.2
  have r1 := H6.out.k.trans (kp_setRow1 W6 (w.heap.size + 1) ({ S with own := 3, turns := 2, prev := S.prev % 1000, sent := S.sent % 1000, ser := (S.prev % 1000 + S.sent % 1000 + S.ser % 1000), hid := z32, ho := z32, hp := 0 } : St).cl.toArray) (fun m hm => by rw [List.mem_singleton] at hm; subst hm; exact .inr (by omega))
  exact bodyPost_ret (results_cell_row rfl _ _ (w.heap.size + 1) 45 _ (0, 0) _ rfl r2 Try.underlying45 rfl (by rw [List.size_toArray, St.cl_len H6.out.s.ok]; kernel_rfl)) rfl ⟨_, rfl, H6.out.s.ok, (by show (3 : Int) ≤ 3; decide), (by show (2 : Int) ≤ 4; decide), fine_21 _ H6.out.s.ok (by show (2 : Int) ≤ 3; decide) (by show (3 : Int) - 2 ≤ 1; decide) (by show (2 : Int) - 3 ≤ 1; decide) (by show (2 : Int) ≠ 0; decide) (by show S.sent % 1000 ≤ S.prev % 1000 + S.sent % 1000 + S.ser % 1000; omega) (by show S.prev % 1000 ≤ S.prev % 1000 + S.sent % 1000 + S.ser % 1000 - S.sent % 1000; omega) ⟨rfl, rfl, rfl⟩, r1⟩
set_option maxRecDepth 100000 in
set_option maxHeartbeats 2000000 in
theorem may_33 (S : St) (hS : S.ok) (w : World) (ho : S.own % 4 = 3) (ht : S.turns % 4 = 3) : Calls Try.prog 18 #[.agg S.cl.toArray, .bool true] w (Mayd w) := by
  have HO := Lib.hid hS
  obtain ⟨w0, hw0⟩ : ∃ w0, w0 = (w.alloc (.cells S.cl.toArray 45)).alloc (.cells Try.zeroCells45 45) := ⟨_, rfl⟩
  have H0 : Hid (MM w w0 w.heap.size S) := Lib.hid (by rw [hw0]; exact mm_start w S hS _ (by kernel_rfl))
  have ho4 : S.own.tmod 4 = 3 := by rw [Int.tmod_eq_emod_of_nonneg hS.own.1]; exact ho
  have ht4 : S.turns.tmod 4 = 3 := by rw [Int.tmod_eq_emod_of_nonneg hS.turns.1]; exact ht
  clear ho ht
  have c208 : w0.cell? ⟨w.heap.size, 208, none⟩ = some (.int .u32 S.own) := H0.out.s.own
  have f208 : w0.frozen? ⟨w.heap.size, 208, none⟩ = false := H0.out.s.free 208
  have c209 : w0.cell? ⟨w.heap.size, 209, none⟩ = some (.int .u32 S.turns) := H0.out.s.turns
  have f209 : w0.frozen? ⟨w.heap.size, 209, none⟩ = false := H0.out.s.free 209
  have c210 : w0.cell? ⟨w.heap.size, 210, none⟩ = some (.int .u32 S.sent) := H0.out.s.sent
  have f210 : w0.frozen? ⟨w.heap.size, 210, none⟩ = false := H0.out.s.free 210
  have c212 : w0.cell? ⟨w.heap.size, 212, none⟩ = some (.int .u32 S.prev) := H0.out.s.prev
  have f212 : w0.frozen? ⟨w.heap.size, 212, none⟩ = false := H0.out.s.free 212
  have c213 : w0.cell? ⟨w.heap.size, 213, none⟩ = some (.int .u32 S.ser) := H0.out.s.ser
  have f213 : w0.frozen? ⟨w.heap.size, 213, none⟩ = false := H0.out.s.free 213
  have H1 : Hid (MM w ((w0.setCell ⟨w.heap.size, 208, none⟩ (.int .u32 3)).setCell ⟨w.heap.size, 209, none⟩ (.int .u32 3)) w.heap.size { S with own := 3, turns := 3 }) := Lib.hid ((H0.out.own 3 ⟨by decide, by decide⟩).turns 3 ⟨by decide, by decide⟩)
  have rprev : S.prev.tmod 1000 = S.prev % 1000 := Int.tmod_eq_emod_of_nonneg hS.prev.1
  have rsent : S.sent.tmod 1000 = S.sent % 1000 := Int.tmod_eq_emod_of_nonneg hS.sent.1
  have rser : S.ser.tmod 1000 = S.ser % 1000 := Int.tmod_eq_emod_of_nonneg hS.ser.1
  have v1 : IntKind.u32.wrap (S.prev % 1000 + S.sent % 1000) = S.prev % 1000 + S.sent % 1000 := by rw [IntKind.wrap_u32]; omega
  have v2 : IntKind.u32.wrap (S.prev % 1000 + S.sent % 1000 + S.ser % 1000) = S.prev % 1000 + S.sent % 1000 + S.ser % 1000 := by rw [IntKind.wrap_u32]; omega
  go_enter Try.func18, Try.ntmps18
  go_wp2_with (first
    | (rw [← hw0]; clear hw0)
    | ((with_reducible show wpList _ _ _ ({ dst := none, op := Op.store _ (.tmp 77) (.tmp 76), type := _, pos := _, after := _, guard := _ } :: _) _ _); have H5 : Hid (MM w (((((w0.setCell ⟨w.heap.size, 208, none⟩ (.int .u32 3)).setCell ⟨w.heap.size, 209, none⟩ (.int .u32 3)).setCell ⟨w.heap.size, 212, none⟩ (.int .u32 (S.prev % 1000))).setCell ⟨w.heap.size, 210, none⟩ (.int .u32 (S.sent % 1000))).setCell ⟨w.heap.size, 213, none⟩ (.int .u32 (S.prev % 1000 + S.sent % 1000 + S.ser % 1000))) w.heap.size { S with own := 3, turns := 3, prev := S.prev % 1000, sent := S.sent % 1000, ser := (S.prev % 1000 + S.sent % 1000 + S.ser % 1000) }) := Lib.hid (((H1.out.prev (S.prev % 1000) ⟨by omega, by omega⟩).sent (S.sent % 1000) ⟨by omega, by omega⟩).ser (S.prev % 1000 + S.sent % 1000 + S.ser % 1000) ⟨by omega, by omega⟩); (with_reducible refine wpList_store_mid ?r1 42 (.tmp 77) (.tmp 76) ?r2 w.heap.size 214 ((hel z32 z32 0).toArray) ?r3 ?r4 ?r5 ?r6 ?r7 ?r8); (case r1 => rfl); (case r2 => rfl); (case r3 => rfl); (case r4 => rfl); (case r5 => exact H5.out.there 214 _ (by decide)); (case r6 => kernel_rfl); (case r7 => exact one_hel z32 z32 0); have H6 : Hid (MM w ((((((w0.setCell ⟨w.heap.size, 208, none⟩ (.int .u32 3)).setCell ⟨w.heap.size, 209, none⟩ (.int .u32 3)).setCell ⟨w.heap.size, 212, none⟩ (.int .u32 (S.prev % 1000))).setCell ⟨w.heap.size, 210, none⟩ (.int .u32 (S.sent % 1000))).setCell ⟨w.heap.size, 213, none⟩ (.int .u32 (S.prev % 1000 + S.sent % 1000 + S.ser % 1000))).setCells w.heap.size 214 (hel z32 z32 0)) w.heap.size { S with own := 3, turns := 3, prev := S.prev % 1000, sent := S.sent % 1000, ser := (S.prev % 1000 + S.sent % 1000 + S.ser % 1000), hid := z32, ho := z32, hp := 0 }) := Lib.hid (H5.out.hello z32 z32 0 rfl rfl); change wpList _ _ _ _ _ ((((((w0.setCell ⟨w.heap.size, 208, none⟩ (.int .u32 3)).setCell ⟨w.heap.size, 209, none⟩ (.int .u32 3)).setCell ⟨w.heap.size, 212, none⟩ (.int .u32 (S.prev % 1000))).setCell ⟨w.heap.size, 210, none⟩ (.int .u32 (S.sent % 1000))).setCell ⟨w.heap.size, 213, none⟩ (.int .u32 (S.prev % 1000 + S.sent % 1000 + S.ser % 1000))).setCells w.heap.size 214 (hel z32 z32 0)); generalize (((((w0.setCell ⟨w.heap.size, 208, none⟩ (.int .u32 3)).setCell ⟨w.heap.size, 209, none⟩ (.int .u32 3)).setCell ⟨w.heap.size, 212, none⟩ (.int .u32 (S.prev % 1000))).setCell ⟨w.heap.size, 210, none⟩ (.int .u32 (S.sent % 1000))).setCell ⟨w.heap.size, 213, none⟩ (.int .u32 (S.prev % 1000 + S.sent % 1000 + S.ser % 1000))).setCells w.heap.size 214 (hel z32 z32 0) = W6 at *)
    | ((with_reducible refine wpList_load_row ?u1 45 (.tmp 2) ?u2 w.heap.size ?u3 45 ({ S with own := 3, turns := 3, prev := S.prev % 1000, sent := S.sent % 1000, ser := (S.prev % 1000 + S.sent % 1000 + S.ser % 1000), hid := z32, ho := z32, hp := 0 } : St).cl.toArray (0, 0) ?u4 ?u5 ?u6 ?u7 ?u8 ?u9); (case u1 => rfl); (case u2 => rfl); (case u3 => rfl); (case u5 => exact H6.out.s.hp); (case u6 => exact Try.underlying45); (case u7 => rfl); (case u8 => (rw [List.size_toArray, St.cl_len H6.out.s.ok]; kernel_rfl)); obtain ⟨bx, hbx⟩ := H6.out.box; have HBX := Lib.hid hbx; clear hbx)
    | ((with_reducible refine wpList_store_row ?x1 45 (.tmp 4) (.tmp 78) ?x2 (w.heap.size + 1) ({ S with own := 3, turns := 3, prev := S.prev % 1000, sent := S.sent % 1000, ser := (S.prev % 1000 + S.sent % 1000 + S.ser % 1000), hid := z32, ho := z32, hp := 0 } : St).cl.toArray ?x3 ?x4 45 bx ?x5 ?x6 ?x7 ?x8 ?x9); (case x1 => rfl); (case x2 => rfl); go_must ((case x3 => rfl); (case x4 => rfl); (case x5 => exact HBX.out.2); (case x6 => (rw [List.size_toArray, St.cl_len H6.out.s.ok]; kernel_rfl)); (case x7 => (rw [HBX.out.1, List.size_toArray, St.cl_len H6.out.s.ok])); (case x8 => exact all_oneCell_toArray (St.cl_one _))))
    | fail)
  have r2 := setRow_heap W6 (w.heap.size + 1) _ ({ S with own := 3, turns := 3, prev := S.prev % 1000, sent := S.sent % 1000, ser := (S.prev % 1000 + S.sent % 1000 + S.ser % 1000), hid := z32, ho := z32, hp := 0 } : St).cl.toArray _ _ HBX.out.2
  have r1 := H6.out.k.trans (kp_setRow1 W6 (w.heap.size + 1) ({ S with own := 3, turns := 3, prev := S.prev % 1000, sent := S.sent % 1000, ser := (S.prev % 1000 + S.sent % 1000 + S.ser % 1000), hid := z32, ho := z32, hp := 0 } : St).cl.toArray) (fun m hm => by rw [List.mem_singleton] at hm; subst hm; exact .inr (by omega))
  exact bodyPost_ret (results_cell_row rfl _ _ (w.heap.size + 1) 45 _ (0, 0) _ rfl r2 Try.underlying45 rfl (by rw [List.size_toArray, St.cl_len H6.out.s.ok]; kernel_rfl)) rfl ⟨_, rfl, H6.out.s.ok, (by show (3 : Int) ≤ 3; decide), (by show (3 : Int) ≤ 4; decide), fine_21 _ H6.out.s.ok (by show (2 : Int) ≤ 3; decide) (by show (3 : Int) - 3 ≤ 1; decide) (by show (3 : Int) - 3 ≤ 1; decide) (by show (3 : Int) ≠ 0; decide) (by show S.sent % 1000 ≤ S.prev % 1000 + S.sent % 1000 + S.ser % 1000; omega) (by show S.prev % 1000 ≤ S.prev % 1000 + S.sent % 1000 + S.ser % 1000 - S.sent % 1000; omega) ⟨rfl, rfl, rfl⟩, r1⟩
theorem may_any (S : St) (hS : S.ok) (w : World) : Calls Try.prog 18 #[.agg S.cl.toArray, .bool true] w (Mayd w) := by
  have a := hS.own.1
  have b := hS.turns.1
  have ho : S.own % 4 = 0 ∨ S.own % 4 = 1 ∨ S.own % 4 = 2 ∨ S.own % 4 = 3 := by omega
  have ht : S.turns % 4 = 0 ∨ S.turns % 4 = 1 ∨ S.turns % 4 = 2 ∨ S.turns % 4 = 3 := by omega
  rcases ho with ho | ho | ho | ho <;> rcases ht with ht | ht | ht | ht
  · exact may_00 S hS w ho ht
  · exact may_01 S hS w ho ht
  · exact may_02 S hS w ho ht
  · exact may_03 S hS w ho ht
  · exact may_10 S hS w ho ht
  · exact may_11 S hS w ho ht
  · exact may_12 S hS w ho ht
  · exact may_13 S hS w ho ht
  · exact may_20 S hS w ho ht
  · exact may_21 S hS w ho ht
  · exact may_22 S hS w ho ht
  · exact may_23 S hS w ho ht
  · exact may_30 S hS w ho ht
  · exact may_31 S hS w ho ht
  · exact may_32 S hS w ho ht
  · exact may_33 S hS w ho ht
end Go.Proofs.Ytkceaepbjdfccaa
