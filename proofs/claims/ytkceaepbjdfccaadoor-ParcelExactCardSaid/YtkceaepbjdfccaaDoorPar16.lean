/-
(*parcel.Tray).Drop.
-/
import Derived.Test.YtkceaepbjdfccaaDoorPar15
namespace Go.Proofs.YtkceaepbjdfccaaDoor
open Go.RowKit
open Go.ChangeMaps (setBlock heap_setBlock_same heap_setBlock_other)
/-- block B is a map of K, block r an iterator over it that has handed out the keys of vis -/
structure RG (w : World) (B r : Nat) (K : List (Ky × Nat)) (vis : Ky → Bool) : Prop where
  ex : ∃ (es : Array MapEntry) (clock since : Nat) (seen : Array Nat) (c0 : Nat), w.heap[B]? = some (.map es clock) ∧ es.toList.map (fun e => (e.key, e.val)) = K.map (fun k => (kv k.1, pv k.2)) ∧ (∀ e ∈ es.toList, e.born < clock) ∧ (es.toList.map (·.born)).Nodup ∧
    w.heap[r]? = some (.mapIter (some B) since seen c0) ∧ (∀ e ∈ es.toList, e.born < since) ∧ since ≤ c0 ∧ since ≤ clock ∧ ∀ e ∈ es.toList, ∀ k, e.key = kv k → vis k = seen.contains e.born
  ok : ∀ k ∈ K, Kok k.1
  nd : (K.map (·.1)).Nodup
theorem RG.m {w : World} {B r : Nat} {K : List (Ky × Nat)} {vis : Ky → Bool} (h : RG w B r K vis) : MapIs w B K := by
  obtain ⟨es, c, s, sn, c0, h1, h2, h3, h4, _⟩ := h.ex
  exact ⟨⟨es, c, h1, h2, h3, h4⟩, h.ok, h.nd⟩
theorem RG.kp {w w' : World} {L : List Nat} {B r : Nat} {K : List (Ky × Nat)} {vis : Ky → Bool} (h : RG w B r K vis) (k : Kp L w w') (hB : B ∉ L) (hr : r ∉ L) : RG w' B r K vis ∧ w'.rangeLeft B r = w.rangeLeft B r := by
  obtain ⟨es, c, s, sn, c0, h1, h2, h3, h4, h5, rest⟩ := h.ex
  have e1 := k.heap h1 hB
  have e2 := k.heap h5 hr
  refine ⟨⟨⟨es, c, s, sn, c0, e1, h2, h3, h4, e2, rest⟩, h.ok, h.nd⟩, ?_⟩
  simp only [World.rangeLeft, e1, e2, h1, h5]
theorem RG.start {w : World} {B : Nat} {K : List (Ky × Nat)} (h : MapIs w B K) : ∃ w', (Instr.range 97 (.map (some B))).run Tryd.prog w = .ok (.pointer (some ⟨w.heap.size, 0, none⟩)) w' ∧ RG w' B w.heap.size K (fun _ => false) ∧ Kp [] w w' := by
  obtain ⟨es, c, h1, h2, h3, h4⟩ := h.ex
  have k : Kp [] w (w.alloc (.mapIter (some B) c #[] c)) := (Kp.refl [] w).alloc _
  exact ⟨_, run_range_map w _ _ _ B es c Tryd.underlying97 h1, ⟨⟨es, c, c, #[], c, k.heap h1 (by simp), h2, h3, h4, heap_alloc_new w _, h3, Nat.le_refl _, Nat.le_refl _, fun e _ k _ => by simp⟩, h.ok, h.nd⟩, k⟩
theorem RG.next {w : World} {B r : Nat} {K : List (Ky × Nat)} {vis : Ky → Bool} (h : RG w B r K vis) (ty : TypeId) :
    ((∀ k ∈ K, vis k.1 = true) ∧ (Instr.next (.pointer (some ⟨r, 0, none⟩)) false ty).run Tryd.prog w = .ok (.tuple #[.bool false]) w) ∨
    ∃ k b w', (k, b) ∈ K ∧ vis k = false ∧ (Instr.next (.pointer (some ⟨r, 0, none⟩)) false ty).run Tryd.prog w = .ok (.tuple #[.bool true, kv k, pv b]) w' ∧ RG w' B r K (fun x => vis x || x == k) ∧ w'.rangeLeft B r < w.rangeLeft B r ∧ Kp [r] w w' ∧
      (Instr.entry (.pointer (some ⟨r, 0, none⟩))).run Tryd.prog w' = .ok (.tuple #[kv k, pv b]) w' := by
  obtain ⟨es, c, s, sn, c0, h1, h2, h3, h4, h5, h6, h7, h8, h9⟩ := h.ex
  have hne : B ≠ r := fun e => by rw [e, h5] at h1; cases h1
  rcases run_next_at (P := Tryd.prog) w ty r B s c0 sn es c h5 h1 h6 h7 with ⟨h0, hrun⟩ | ⟨e, he, w1, hal, hrun⟩
  · refine .inl ⟨fun k hk => ?_, hrun⟩
    obtain ⟨e, he, e1, _⟩ := ents_mem h2 hk
    rw [h9 e he k.1 e1]
    exact all_seen es sn h0 e he
  · obtain ⟨hem, hes⟩ := Go.mem_left he
    obtain ⟨j, hj⟩ := List.getElem?_of_mem hem
    obtain ⟨kk, hk1, e1, e2⟩ := ents_at h2 hj
    obtain ⟨k, b⟩ := kk
    simp only at e1 e2
    have hk1w : w1.heap[B]? = some (.map es c) := by rcases hal with rfl | rfl <;> exact h1
    have hr1 : w1.heap[r]? = some (.mapIter (some B) s sn c0) := by rcases hal with rfl | rfl <;> exact h5
    have hset := MapKept.heap_set (o' := .mapIter (some B) s (sn.push e.born) c) hr1
    have hb' : (setBlock w1 r (.mapIter (some B) s (sn.push e.born) c)).heap[B]? = some (.map es c) := (hset.2 B hne).trans hk1w
    refine .inr ⟨k, b, _, List.mem_of_getElem? hk1, ?_, by rw [hrun, e1, e2], ⟨⟨es, c, s, sn.push e.born, c, hb', h2, h3, h4, hset.1, h6, h8, h8, fun x hx y hy => ?_⟩, h.ok, h.nd⟩, ?_, ?_, ?_⟩
    · rw [h9 e hem k e1]; exact hes
    · rw [Go.contains_push, h9 x hx y hy]
      have hiff : (y == k) = (x.born == e.born) := by
        rw [Bool.eq_iff_iff, beq_iff_eq, beq_iff_eq]
        constructor
        · rintro rfl
          obtain ⟨i, hi⟩ := List.getElem?_of_mem hx
          obtain ⟨ky, hky, f1, _⟩ := ents_at h2 hi
          have hk2 : ky.1 = y := kv_inj (f1.symm.trans hy)
          have hij : i = j := by
            have nd := h.nd
            have g1 : (K.map (·.1))[i]? = some y := by rw [List.getElem?_map, hky]; simp [hk2]
            have g2 : (K.map (·.1))[j]? = some y := by rw [List.getElem?_map, hk1]; rfl
            exact (List.getElem?_inj (by simpa using (List.getElem?_eq_some_iff.1 hky).1) nd).1 (by rw [g1, g2])
          subst hij
          rw [hi] at hj
          rw [Option.some.inj hj]
        · intro hb
          obtain rfl := Go.born_inj h4 hx hem hb
          exact kv_inj (hy.symm.trans e1)
      rw [hiff]
    · have hl := Go.left_shrinks es sn e he
      have hr2 : (setBlock w1 r (.mapIter (some B) s (sn.push e.born) c)).heap[r]? = some (.mapIter (some B) s (sn.push e.born) c) := hset.1
      simp only [World.rangeLeft, h1, h5, hb', hr2]
      exact hl
    · rcases hal with rfl | rfl
      · exact ⟨rfl, rfl, rfl, by simp [setBlock], fun i _ hi => hset.2 i (by simpa using hi)⟩
      · exact ⟨rfl, rfl, rfl, by simp [setBlock], fun i _ hi => hset.2 i (by simpa using hi)⟩
    · rw [run_entry_at _ r B s sn es c e hset.1 hb' hem h4, e1, e2]
theorem RG.del {w : World} {B r : Nat} {K : List (Ky × Nat)} {vis : Ky → Bool} (h : RG w B r K vis) {k : Ky} {b : Nat} (hm : (k, b) ∈ K) (ty : TypeId) :
    ∃ w', (Builtin.delete_ #[97, 105] ty #[.map (some B), kv k]).run Tryd.prog w = .ok (.tuple #[]) w' ∧ RG w' B r (delK K k) vis ∧ Kp [B] w w' ∧ w'.rangeLeft B r ≤ w.rangeLeft B r := by
  obtain ⟨es, c, s, sn, c0, h1, h2, h3, h4, h5, h6, h7, h8, h9⟩ := h.ex
  have hk : Kok k := h.ok _ hm
  have hne : r ≠ B := fun e => by rw [e, h1] at h5; cases h5
  obtain ⟨l, hl⟩ := key_reads k hk
  rcases find_ents (w := w) h2 h.ok hk with ⟨_, g2, _⟩ | ⟨j, b', e, g1, g2, g3, g4, g5⟩
  · exact absurd rfl (g2 _ hm)
  · have hjs : j < es.size := by simpa using (List.getElem?_eq_some_iff.1 g3).1
    have hsub : (es.eraseIdxIfInBounds j).toList = es.toList.eraseIdx j := by
      unfold Array.eraseIdxIfInBounds
      rw [dif_pos hjs]
      simp
    have hmem : ∀ x ∈ (es.eraseIdxIfInBounds j).toList, x ∈ es.toList := fun x hx => by rw [hsub] at hx; exact List.mem_of_mem_eraseIdx hx
    have hr' : (setBlock w B (.map (es.eraseIdxIfInBounds j) c)).heap[r]? = some (.mapIter (some B) s sn c0) := (heap_setBlock_other h1 _ hne).trans h5
    have hb' : (setBlock w B (.map (es.eraseIdxIfInBounds j) c)).heap[B]? = some (.map (es.eraseIdxIfInBounds j) c) := heap_setBlock_same h1 _
    refine ⟨setBlock w B (.map (es.eraseIdxIfInBounds j) c), ?_, ⟨⟨_, c, s, sn, c0, hb', ?_, fun x hx => h3 x (hmem x hx), ?_, hr', fun x hx => h6 x (hmem x hx), h7, h8, fun x hx => h9 x (hmem x hx)⟩, fun x hx => h.ok x (List.mem_filter.1 hx).1, h.nd.sublist (List.filter_sublist.map _)⟩, kp_setBlock h1 _, ?_⟩
    · simp [Builtin.delete_, run_underlying Tryd.underlying97, MapKept.run_getObj_map h1, nameKeyed.check w _ hl, g1, MapKept.run_setObj_map _ h1, Result.andThen, setBlock]
    · rw [hsub, delK_some g2 h.nd, Go.ChangeMaps.map_eraseIdx, Go.ChangeMaps.map_eraseIdx, h2]
    · rw [hsub]
      exact h4.sublist ((List.eraseIdx_sublist _ _).map _)
    · simp only [World.rangeLeft, h1, h5, hb', hr']
      have e1 : ∀ a : Array MapEntry, (leftOf a sn).size = (a.toList.filter fun e => !sn.contains e.born).length := fun a => by
        unfold leftOf
        rw [← Array.toList_filter, Array.length_toList]
      rw [e1, e1, hsub]
      exact ((List.eraseIdx_sublist _ _).filter _).length_le
section
variable {ops : Array Oper} {rest : List Oper} {o : Oper} {a : Act} {Q : Exit → Act → World → Prop} {w : World} {B r : Nat} {K : List (Ky × Nat)} {vis : Ky → Bool}
theorem wpl_range (hg : o.guard = none) (m : Operand) (hop : o.op = Op.range 97 m) (hm : a.eval m = .map (some B)) (h : MapIs w B K)
    (hK : ∀ w', RG w' B w.heap.size K (fun _ => false) → Kp [] w w' → wpList Tryd.prog ops Q rest (a.put o.dst (.pointer (some ⟨w.heap.size, 0, none⟩))) w') : wpList Tryd.prog ops Q (o :: rest) a w := by
  refine wpList_plain hg fun K' hK' => ?_
  obtain ⟨w', hrun, r1, r2⟩ := RG.start h
  unfold Oper.wp
  simp [execOp, hop, hm, hrun, Result.andThen]
  exact hK' _ _ (hK w' r1 r2)
theorem wpl_next (hg : o.guard = none) (it : Operand) (hop : o.op = Op.next it false) (hit : a.eval it = .pointer (some ⟨r, 0, none⟩)) (h : RG w B r K vis)
    (hDone : Hid (∀ k ∈ K, vis k.1 = true) → wpList Tryd.prog ops Q rest (a.put o.dst (.tuple #[.bool false])) w)
    (hMore : ∀ (k : Ky) (b : Nat) (w' : World), Hid ((k, b) ∈ K) → Hid (RG w' B r K (fun x => vis x || x == k)) → Hid (w'.rangeLeft B r < w.rangeLeft B r) → Hid (Kp [r] w w') →
      (Instr.entry (.pointer (some ⟨r, 0, none⟩))).run Tryd.prog w' = .ok (.tuple #[.agg #[.string (strOf k.1), .int .u32 k.2], .pointer (some ⟨b, 0, none⟩)]) w' → wpList Tryd.prog ops Q rest (a.put o.dst (.tuple #[.bool true, .agg #[.string (strOf k.1), .int .u32 k.2], .pointer (some ⟨b, 0, none⟩)])) w') : wpList Tryd.prog ops Q (o :: rest) a w := by
  refine wpList_plain hg fun K' hK' => ?_
  unfold Oper.wp
  rcases h.next o.type with ⟨h0, hrun⟩ | ⟨k, b, w', h1, _, hrun, h3, h4, h5, h6⟩
  · simp [execOp, hop, hit, hrun, Result.andThen]
    exact hK' _ _ (hDone (Lib.hid h0))
  · simp [execOp, hop, hit, hrun, Result.andThen]
    exact hK' _ _ (hMore k b w' (Lib.hid h1) (Lib.hid h3) (Lib.hid h4) (Lib.hid h5) h6)
theorem wpl_delete_rg (hg : o.guard = none) (m x : Operand) (hop : o.op = Op.call { callee := Callee.builtin Builtin.delete, args := #[m, x], argTypes := #[97, 105] })
    {k : Ky} {b : Nat} (hm : a.eval m = .map (some B)) (hx : a.eval x = kv k) (h : RG w B r K vis) (hk : (k, b) ∈ K)
    (hK : ∀ w', RG w' B r (delK K k) vis → Kp [B] w w' → w'.rangeLeft B r ≤ w.rangeLeft B r → wpList Tryd.prog ops Q rest (a.put o.dst (.tuple #[])) w') : wpList Tryd.prog ops Q (o :: rest) a w := by
  refine wpList_plain hg fun K' hK' => ?_
  obtain ⟨w', hrun, r1, r2, r3⟩ := h.del hk o.type
  unfold Oper.wp
  simp [execOp, hop, resolve, invoke, builtin, hm, hx, hrun, Result.andThen]
  exact hK' _ _ (hK w' r1 r2 r3)
end
/-- what is left while a peer's parcels go -/
def keepK (K : List (Ky × Nat)) (p : List UInt8) (vis : Ky → Bool) : List (Ky × Nat) := K.filter fun x => !(x.1.1 == p && vis x.1)
theorem keepK_start (K : List (Ky × Nat)) (p : List UInt8) : keepK K p (fun _ => false) = K := by
  unfold keepK
  exact List.filter_eq_self.2 (fun x _ => by simp)
theorem keepK_other (K : List (Ky × Nat)) (p : List UInt8) (vis : Ky → Bool) (k : Ky) (h : k.1 ≠ p) : keepK K p (fun x => vis x || x == k) = keepK K p vis := by
  unfold keepK
  apply List.filter_congr
  intro x _
  by_cases e : x.1 = k
  · rw [e]; simp [h]
  · have eb : (x.1 == k) = false := beq_eq_false_iff_ne.2 e
    simp [eb]
theorem keepK_one (K : List (Ky × Nat)) (p : List UInt8) (vis : Ky → Bool) (k : Ky) (h : k.1 = p) : keepK K p (fun x => vis x || x == k) = delK (keepK K p vis) k := by
  unfold keepK delK
  rw [List.filter_filter]
  apply List.filter_congr
  intro x _
  by_cases e : x.1 = k
  · rw [e]; simp [h]
  · have eb : (x.1 == k) = false := beq_eq_false_iff_ne.2 e
    simp [bne, eb]
theorem keepK_end (K : List (Ky × Nat)) (p : List UInt8) (vis : Ky → Bool) (h : ∀ k ∈ keepK K p vis, vis k.1 = true) : keepK K p vis = K.filter fun x => x.1.1 != p := by
  unfold keepK at h ⊢
  apply List.filter_congr
  intro x hx
  by_cases e : x.1.1 = p
  · cases hv : vis x.1 with
    | true => simp [e]
    | false =>
      have := h x (List.mem_filter.2 ⟨hx, by simp [hv]⟩)
      rw [hv] at this
      cases this
  · have eb : (x.1.1 == p) = false := beq_eq_false_iff_ne.2 e
    simp [bne, eb]
theorem delK_len {K : List (Ky × Nat)} {k : Ky} {b : Nat} (hm : (k, b) ∈ K) (nd : (K.map (·.1)).Nodup) : (delK K k).length + 1 = K.length := by
  obtain ⟨j, hj⟩ := List.getElem?_of_mem hm
  have hlt := (List.getElem?_eq_some_iff.1 hj).1
  rw [delK_some hj nd, List.length_eraseIdx, if_pos hlt]
  omega
/-- what Drop leaves -/
def dropE (T : List Ent) (p : List UInt8) : List Ent := T.filter fun e => e.peer != p
theorem Zk_drop (Z : List Zt) (p : List UInt8) : Zk (Z.filter fun z => z.e.peer != p) = (Zk Z).filter fun x => x.1.1 != p := by
  unfold Zk
  rw [List.filter_map]
  rfl
/-- where Drop's loop stands -/
structure DL (w W : World) (t : Nat) (most : Int) (B r : Nat) (K0 K : List (Ky × Nat)) (p : List UInt8) (vis : Ky → Bool) (n : Nat) : Prop where
  k : Kp [B] w W
  ht : W.heap[t]? = some (.cells #[.int .i64 most, .map (some B)] 99 (0, 0))
  g : RG W B r K vis
  hK : K = keepK K0 p vis
  hn : K.length + n = K0.length
  hr : w.heap.size ≤ r
theorem DL.kp {w W W' : World} {t : Nat} {most : Int} {B r : Nat} {K0 K : List (Ky × Nat)} {p : List UInt8} {vis : Ky → Bool} {n : Nat} (h : DL w W t most B r K0 K p vis n) (k : Kp [] W W') : DL w W' t most B r K0 K p vis n ∧ W'.rangeLeft B r = W.rangeLeft B r :=
  ⟨⟨h.k.trans0 k, k.heap h.ht (by simp), (h.g.kp k (by simp) (by simp)).1, h.hK, h.hn, h.hr⟩, (h.g.kp k (by simp) (by simp)).2⟩
theorem DL.c1 {w W : World} {t : Nat} {most : Int} {B r : Nat} {K0 K : List (Ky × Nat)} {p : List UInt8} {vis : Ky → Bool} {n : Nat} (h : DL w W t most B r K0 K p vis n) : W.cell? ⟨t, 1, none⟩ = some (.map (some B)) := by
  rw [cell_of_row W t 1 _ _ _ h.ht]; rfl
theorem DL.tr {w W : World} {t : Nat} {most : Int} {B r : Nat} {K0 K : List (Ky × Nat)} {p : List UInt8} {vis : Ky → Bool} {n : Nat} (h : DL w W t most B r K0 K p vis n) : t ∉ [r] := by
  rw [List.mem_singleton]
  intro e
  obtain ⟨es, c, s, sn, c0, _, _, _, _, h5, _⟩ := h.g.ex
  have := h.ht
  rw [e, h5] at this
  cases this
/-- a key has come out: of another peer -/
theorem DL.skip {w W W' : World} {t : Nat} {most : Int} {B r : Nat} {K0 K : List (Ky × Nat)} {p : List UInt8} {vis : Ky → Bool} {n : Nat} (h : DL w W t most B r K0 K p vis n) {k : Ky} (hg : RG W' B r K (fun x => vis x || x == k)) (kp : Kp [r] W W') (hne : k.1 ≠ p) : DL w W' t most B r K0 K p (fun x => vis x || x == k) n := by
  have ht : t ≠ r := fun e => by
    obtain ⟨es, c, s, sn, c0, _, _, _, _, h5, _⟩ := h.g.ex
    have := h.ht
    rw [e, h5] at this
    cases this
  exact ⟨h.k.trans kp (fun m hm => by rw [List.mem_singleton] at hm; subst hm; exact .inr h.hr), kp.heap h.ht (by simpa using ht), hg, by rw [keepK_other _ _ _ _ hne]; exact h.hK, h.hn, h.hr⟩
/-- .. of this one -/
theorem DL.hit {w W W' : World} {t : Nat} {most : Int} {B r : Nat} {K0 K : List (Ky × Nat)} {p : List UInt8} {vis : Ky → Bool} {n : Nat} (h : DL w W t most B r K0 K p vis n) {k : Ky} {b : Nat} (hm : (k, b) ∈ K) {W1 : World} (k1 : Kp [r] W W1) (hg : RG W' B r (delK K k) (fun x => vis x || x == k)) (kp : Kp [B] W1 W') (he : k.1 = p) : DL w W' t most B r K0 (delK K k) p (fun x => vis x || x == k) (n + 1) := by
  have ht : t ≠ r := fun e => by
    obtain ⟨es, c, s, sn, c0, _, _, _, _, h5, _⟩ := h.g.ex
    have := h.ht
    rw [e, h5] at this
    cases this
  have htB : t ≠ B := fun e => by
    obtain ⟨es, c, s, sn, c0, h1, _⟩ := h.g.ex
    have := h.ht
    rw [e, h1] at this
    cases this
  have kA : Kp [B] w W1 := h.k.trans k1 (fun m hm => by rw [List.mem_singleton] at hm; subst hm; exact .inr h.hr)
  have hl := delK_len hm h.g.nd
  have hn := h.hn
  exact ⟨kA.trans kp (fun m hm => .inl hm), kp.heap (k1.heap h.ht (by simpa using ht)) (by simpa using htB), hg, by rw [keepK_one _ _ _ _ he, ← h.hK], by omega, h.hr⟩
set_option maxRecDepth 100000 in
set_option maxHeartbeats 1000000 in
theorem drop_tray (F : Nat → Prop) (t : Nat) (most : Int) (T : List Ent) (p : List UInt8) (w : World) (h : TR w F t most T) :
    Calls Tryd.prog 30 #[.pointer (some ⟨t, 0, none⟩), .string (strOf p)] w fun e w' => ∃ n : Nat, e = .returned (.int .i64 (n : Int)) ∧ (dropE T p).length + n = T.length ∧ TR w' F t most (dropE T p) ∧ ∃ L, (∀ b ∈ L, F b) ∧ Kp L w w' := by
  obtain ⟨G, B, Z, hz1, hzl, hFB, hGF, hFa⟩ := h.ex
  have HZ := Lib.hid hz1
  have HLT := Lib.hid h.lt
  have hc1 : w.cell? ⟨t, 1, none⟩ = some (.map (some B)) := by rw [cell_of_row w t 1 _ _ _ hz1.ht]; rfl
  have HF := Lib.hid (And.intro hFB (And.intro hGF hFa))
  have HZL := Lib.hid hzl
  have hkl : (Zk Z).length ≤ 64 := by have h1 := hz1.len; have h2 := hz1.hm.2; unfold Zk; rw [List.length_map]; omega
  clear h hz1 hzl hFB hGF hFa
  go_enter Tryd.func30, Tryd.ntmps30
  go_wp2_with (first
    | (at_range; (refine wpl_range rfl _ rfl rfl HZ.out.m ?_; intro w0 hg0 hk0; have HD0 : Hid (DL w w0 t most B w.heap.size (Zk Z) (Zk Z) p (fun _ => false) 0) := Lib.hid ⟨hk0.mono (by simp), hk0.heap HZ.out.ht (by simp), hg0, (keepK_start _ _).symm, rfl, Nat.le_refl _⟩; clear hg0 hk0))
    | fail)
  go_frame
  generalize hr : w.heap.size = r at *
  have HR := Lib.hid hr
  clear hr
  go_loopw [5] (fun v wr => ∃ (n : Nat) (K : List (Ky × Nat)) (vis : Ky → Bool), v = .int .i64 n ∧ Hid (DL w wr t most B r (Zk Z) K p vis n)) (fun _ wr => wr.rangeLeft B r)
  case atStart => exact ⟨0, _, _, rfl, HD0⟩
  case round =>
    clear HD0 hc1
    obtain ⟨n, K, vis, rfl, HD⟩ := hrel
    have hnl : n ≤ 64 := by have := HD.out.hn; omega
    go_wp2_with (first
      | (at_next; (refine wpl_next rfl _ rfl rfl HD.out.g (fun HDN => ?_) (fun k b w1 HKM HG1 HLT1 HK1 hen => ?_)))
      | fail)
    · go_ret
      have hKE : K = (Zk Z).filter fun x => x.1.1 != p := by
        have h1 := HDN.out
        rw [HD.out.hK] at h1
        rw [HD.out.hK]
        exact keepK_end _ _ _ h1
      have hm := HD.out.g.m
      have hk := HD.out.k
      rw [hKE, ← Zk_drop] at hm
      have hZd := HZ.out.del (f := fun z => z.e.peer != p) hm hk
      have hTd : Zl (Z.filter fun z => z.e.peer != p) = dropE T p := by
        unfold dropE
        rw [← HZL.out]
        exact Zl_filter Z (fun e => e.peer != p)
      refine ⟨n, rfl, ?_, ⟨fun b hb => by have h1 := HLT.out b hb; have h2 := hk.size; have h3 := HR.out; omega, G, B, _, hZd, hTd, HF.out.1, HF.out.2.1, fun z hz => HF.out.2.2 z (List.mem_filter.1 hz).1⟩, [B], fun b hb => by rw [List.mem_singleton] at hb; rw [hb]; exact HF.out.1, hk⟩
      have h1 := HD.out.hn
      rw [hKE, ← Zk_drop] at h1
      have e1 : ∀ Z : List Zt, (Zk Z).length = (Zl Z).length := fun Z => by simp [Zk, Zl]
      rw [e1, e1, hTd, HZL.out] at h1
      exact h1
    · have he : ((strOf k.1).toList == (strOf p).toList) = true := by assumption
      have HE : Hid (k.1 = p) := Lib.hid (by rw [strOf_beq] at he; exact of_decide_eq_true he)
      have k3 : Kp [] w1 (w1.alloc (.cells #[.string (strOf k.1), .int .u32 k.2] 105)) := (Kp.refl [] w1).alloc _
      have hn3 : (w1.alloc (.cells #[.string (strOf k.1), .int .u32 k.2] 105)).heap[w1.heap.size]? = some (.cells #[.string (strOf k.1), .int .u32 k.2] 105 (0, 0)) := heap_alloc_new w1 _
      have HT3 := Lib.hid (k3.heap (HK1.out.heap HD.out.ht HD.out.tr) (by simp))
      have HK3 := Lib.hid (HK1.out.trans0 k3)
      have HG3 := Lib.hid (HG1.out.kp k3 (by simp) (by simp))
      have HN3 := Lib.hid hn3
      generalize w1.alloc (.cells #[.string (strOf k.1), .int .u32 k.2] 105) = W3 at *
      generalize w1.heap.size = nb at *
      have ct1 : W3.cell? ⟨t, 1, none⟩ = some (.map (some B)) := by rw [cell_of_row W3 t 1 _ _ _ HT3.out]; rfl
      have cn0 : W3.cell? ⟨nb, 0, none⟩ = some (.string (strOf k.1)) := by rw [cell_of_row W3 nb 0 _ _ _ HN3.out]; rfl
      have cn1 : W3.cell? ⟨nb, 1, none⟩ = some (.int .u32 k.2) := by rw [cell_of_row W3 nb 1 _ _ _ HN3.out]; rfl
      have k4 : Kp [] W3 W3.drew := (Kp.refl [] W3).drew
      have HK4 := Lib.hid (HK3.out.trans0 k4)
      have HG4 := Lib.hid (HG3.out.1.kp k4 (by simp) (by simp))
      clear he hn3 k3 k4 HN3 HT3 hen
      go_wp2_with fail
      go_still_tail 5, (by kernel_rfl)
      change wpList _ _ _ _ _ W3.drew
      clear ct1 cn0 cn1
      generalize W3.drew = W4 at *
      go_wp2_with (first
        | (at_delete; (refine wpl_delete_rg rfl _ _ rfl rfl (k := k) rfl HG4.out.1 HKM.out ?_; intro w5 hg5 hk5 hl5; have HD5 := Lib.hid (HD.out.hit HKM.out HK4.out hg5 hk5 HE.out); have HL5 : Hid (w5.rangeLeft B r < wr.rangeLeft B r) := Lib.hid (by have h1 := HG4.out.2; have h2 := HG3.out.2; have h3 := HLT1.out; omega); clear hg5 hk5 hl5))
        | fail)
      go_roundw
      case rel => exact ⟨n + 1, _, _, by go_num, HD5⟩
      case measure => exact HL5.out
    · have he : ((strOf k.1).toList == (strOf p).toList) = false := by assumption
      have hne : k.1 ≠ p := by rw [strOf_beq] at he; exact of_decide_eq_false he
      have HD2 := Lib.hid (HD.out.skip HG1.out HK1.out hne)
      clear he hne
      go_wp2_with fail
      go_roundw
      case rel => exact ⟨n, K, _, rfl, Lib.hid (HD2.out.kp ((Kp.refl [] w1).alloc _)).1⟩
      case measure => rw [(HD2.out.kp ((Kp.refl [] w1).alloc _)).2]; exact HLT1.out
end Go.Proofs.YtkceaepbjdfccaaDoor
