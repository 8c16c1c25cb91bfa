/-
The book's Note: what is true of its worlds, append that leaves the old slice as it reads.
-/
import Derived.Test.YtkceaepbjdfccaaWx9
namespace Go.Proofs.Ytkceaepbjdfccaa
open Go.RowKit
theorem el_bs : El Try.prog 88 22 (.slice none 0 0) 24 := ⟨by kernel_rfl, by kernel_rfl, rfl⟩
section
variable {P : Program} {w : World} {ops : Array Oper} {rest : List Oper} {o : Oper} {a : Act} {Q : Exit → Act → World → Prop} {K : Act → World → Prop} {t e : TypeId} {z : Value} {bytes : Nat}
theorem run_appO (E : El P t e z bytes) (ty : TypeId) {B : Nat} {v src : Value} {xs news : List Value} (hown : Own w B e v xs) (hsrc : Rd w src news) (h1 : ∀ u ∈ news, u.oneCell' = true)
    (hl : xs.length + news.length ≤ 140737488355328) (hb : (xs.length + news.length) * bytes ≤ 140737488355328) (hB : B ≤ w.heap.size) :
    ∃ v' w', (Builtin.append_ #[t, t] ty #[v, src]).run P w = .ok v' w' ∧ Own w' B e v' (xs ++ news) ∧ w.grownBy w' v.ownBlock ∧ (∀ b, v'.ownBlock = some b → v.ownBlock = some b ∨ w.heap.size ≤ b) ∧ Rd w' v xs := by
  obtain ⟨i, hi, hz0, hz1, hz2⟩ := info_parts E.hi
  rcases hown.2 with ⟨rfl, hn0⟩ | ⟨g, cap, cur, rfl, hb', hg, hn, hm, hs, ht⟩
  · obtain rfl : xs = [] := List.eq_nil_of_length_eq_zero hn0
    obtain ⟨v', w', hr, ho, hgr⟩ := run_app E ty (B := w.heap.size) (Own.nil w _ e) hsrc h1 hl hb (Nat.le_refl _)
    exact ⟨v', w', hr, ho.base hB, hgr, fun b hb => .inr (ho.lt hb).1, Rd.nil _⟩
  · by_cases hroom : xs.length + news.length ≤ cap
    · obtain ⟨ao, cap', rfl, hc1, hc2, hc3⟩ := hsrc
      cases ao with
      | none =>
        obtain rfl := hc2 rfl
        obtain rfl : news = [] := List.eq_nil_of_length_eq_zero (by omega)
        exact ⟨_, w, run_append_owned_none w B t ty e i 1 E.ht hi _ _ xs hown, by simpa using hown, World.grownBy.refl _ _, fun b hb => .inl hb, hown.rd⟩
      | some ad =>
        obtain ⟨w', hrun, r1, r2⟩ := run_append_fits (P := P) w B t ty e i 1 E.ht hi hz1 g xs.length cap xs hown ad news.length cap' news (by simp) (hc3 ad rfl) h1 hroom
        have ho : Own w' B e (.slice (some ⟨g, 0, none⟩) (xs.length + news.length) cap) (xs ++ news) := by unfold Own; rw [List.length_append]; exact r1
        refine ⟨_, w', hrun, ho, r2, fun b hb => .inl hb, ⟨some ⟨g, 0, none⟩, cap, rfl, hn, (fun h => by cases h), fun a ha j u hu => ?_⟩⟩
        obtain ⟨a0, c0, he, _, _, h3⟩ := ho.rd
        simp only [Value.slice.injEq] at he
        obtain ⟨rfl, _, rfl⟩ := he
        exact h3 a ha j u (by rw [List.getElem?_append_left (List.getElem?_eq_some_iff.1 hu).1]; exact hu)
    · obtain ⟨ao, cap', rfl, hc1, hc2, hc3⟩ := hsrc
      cases ao with
      | none =>
        have := hc2 rfl
        omega
      | some ad =>
        have holds := hown.rd
        obtain ⟨a0, c0, he, _, _, h3⟩ := holds
        simp only [Value.slice.injEq] at he
        obtain ⟨rfl, _, rfl⟩ := he
        obtain ⟨v', w', hrun, r1, r2⟩ := run_append_arg_grows (P := P) w t ty e i z 1 bytes E.ht hi hz0 hz1 hz2 E.hz (by omega) ⟨g, 0, none⟩ xs.length cap xs (by simp) (h3 _ rfl) ad news.length cap' news (by simp) (hc3 ad rfl) (by omega) (by unfold maxLen; omega) hb
        have r1' : Own w' w.heap.size e v' (xs ++ news) := by unfold Own; rw [List.length_append]; exact r1
        have kk : Kp [] w w' := ⟨r2.os, r2.tape, r2.output, r2.size, fun k hk _ => r2.block k hk (by simp)⟩
        refine ⟨v', w', hrun, r1'.base hB, ⟨r2.os, r2.tape, r2.output, r2.size, fun k hk _ => r2.block k hk (by simp)⟩, fun b hb => .inr (r1'.lt hb).1, hown.rd.kp0 kk⟩
theorem op_appendO (E : El P t e z bytes) (s x : Operand) (hop : o.op = Op.call { callee := Callee.builtin Builtin.append, args := #[s, x], argTypes := #[t, t] })
    {B : Nat} {v src : Value} {xs news : List Value} (hs : a.eval s = v) (hx : a.eval x = src) (hown : Own w B e v xs) (hsrc : Rd w src news) (h1 : ∀ u ∈ news, u.oneCell' = true)
    (hl : xs.length + news.length ≤ 140737488355328) (hb : (xs.length + news.length) * bytes ≤ 140737488355328) (hB : B ≤ w.heap.size)
    (hK : ∀ v' w', Own w' B e v' (xs ++ news) → w.grownBy w' v.ownBlock → (∀ b, v'.ownBlock = some b → v.ownBlock = some b ∨ w.heap.size ≤ b) → Rd w' v xs → K (a.put o.dst v') w') : o.wp P a w K Q := by
  obtain ⟨v', w', hr, h2, h3, h4, h5⟩ := run_appO (P := P) E o.type hown hsrc h1 hl hb hB
  unfold Oper.wp
  simp [execOp, hop, resolve, invoke, builtin, hs, hx, hr, Result.andThen]
  exact hK v' w' h2 h3 h4 h5
theorem step_appendO (E : El P t e z bytes) {F : Prop} (hg : o.guard = none) (s x : Operand) (hop : o.op = Op.call { callee := Callee.builtin Builtin.append, args := #[s, x], argTypes := #[t, t] })
    {B : Nat} {v src : Value} {xs news : List Value} (hs : a.eval s = v) (hx : a.eval x = src) (hown : Own w B e v xs) (hsrc : Rd w src news) (h1 : ∀ u ∈ news, u.oneCell' = true)
    (hl : xs.length + news.length ≤ 140737488355328) (hb : (xs.length + news.length) * bytes ≤ 140737488355328) (hB : B ≤ w.heap.size)
    (hK : ∀ v' w', Own w' B e v' (xs ++ news) → w.grownBy w' v.ownBlock → (∀ b, v'.ownBlock = some b → v.ownBlock = some b ∨ w.heap.size ≤ b) → Rd w' v xs → K (a.put o.dst v') w') :
    if Region.wanted o (yielded ops a.tmps) = true then Oper.wp P o a w K Q else F := by
  rw [if_pos (by simp [Region.wanted, hg])]
  exact op_appendO E s x hop hs hx hown hsrc h1 hl hb hB hK
end
/-- in the midst of Note: lX, wX the book's two slices, a and d the slices that are still appended to, P what must stay as it reads -/
structure NS (w W : World) (t : Nat) (cs : Array Value) (lv wv l lX wX a d : Value) (vl vw : List Value) (ma md : List UInt8) (P : List (Value × List UInt8)) : Prop where
  row : W.heap[t]? = some (.cells cs 92 (0, 0))
  kp : Kp (t :: (ob l ++ (ob lv ++ ob wv))) w W
  ol : Own W 0 22 lX vl
  ow : Own W 0 22 wX vw
  oa : Own W 0 5 a (bv ma)
  od : Own W 0 5 d (bv md)
  bl : ∀ b ∈ ob lX, b ∈ ob lv ∨ w.heap.size ≤ b
  bw : ∀ b ∈ ob wX, b ∈ ob wv ∨ w.heap.size ≤ b
  bn : ∀ b ∈ ob lX, b ∉ ob wX
  ba : ∀ b ∈ ob a, b ∈ ob l ∨ w.heap.size ≤ b
  bd : ∀ b ∈ ob d, w.heap.size ≤ b
  bad : ∀ b ∈ ob a, b ∉ ob d
  pr : ∀ x ∈ P, Rd W x.1 (bv x.2) ∧ ∀ b ∈ ob x.1, b ≠ t ∧ b ∉ ob lX ∧ b ∉ ob wX ∧ b < W.heap.size
section
variable {w W W1 w2 : World} {t : Nat} {cs : Array Value} {lv wv l lX wX a d : Value} {vl vw : List Value} {ma md : List UInt8} {P : List (Value × List UInt8)}
theorem Own.apart {w : World} {B B' : Nat} {e e' : TypeId} {v v' : Value} {xs xs' : List Value} (h : Own w B e v xs) (h' : Own w B' e' v' xs') (he : e ≠ e') : ∀ b ∈ ob v, b ∉ ob v' := fun b hb hb' => by
  obtain ⟨cur, hc⟩ := h.block (mem_ob.1 hb)
  obtain ⟨cur', hc'⟩ := h'.block (mem_ob.1 hb')
  rw [hc] at hc'
  simp only [Option.some.injEq, Obj.cells.injEq] at hc'
  exact he hc'.2.1
theorem Own.off {w : World} {B : Nat} {e : TypeId} {v : Value} {xs : List Value} (h : Own w B e v xs) {p : Nat} {cs : Array Value} {T : TypeId} {fz : Nat × Nat} (hp : w.heap[p]? = some (.cells cs T fz)) (hT : T ≠ e) : ∀ b ∈ ob v, b ≠ p := fun b hb e' => by
  subst e'; exact h.not_at hp hT (mem_ob.1 hb)
theorem Own.ltW {w : World} {B : Nat} {e : TypeId} {v : Value} {xs : List Value} (h : Own w B e v xs) : ∀ b ∈ ob v, b < w.heap.size := fun _ hb => (h.lt (mem_ob.1 hb)).2
theorem Kp.cons {L : List Nat} {a b c : World} (h : Kp [] a b) (k : Kp L b c) : Kp L a c := (h.mono (by simp)).trans k (fun _ hm => .inl hm)
theorem grown_ob {a b : World} {v : Value} (h : a.grownBy b v.ownBlock) : Kp (ob v) a b := Kp.of_grown h (fun _ hk => .inl (mem_ob.2 hk))

theorem NS.lst (h : NS w W t cs lv wv l lX wX a d vl vw ma md P) (k1 : Kp [] W W1) {x l1 : Value} (ho : Own w2 0 22 l1 (vl ++ [x])) (hg : W1.grownBy w2 lX.ownBlock) (hb : ∀ b, l1.ownBlock = some b → lX.ownBlock = some b ∨ W1.heap.size ≤ b) :
    (w2.cell? ⟨t, 8, none⟩ = W.cell? ⟨t, 8, none⟩ ∧ w2.frozen? ⟨t, 8, none⟩ = false) ∧ NS w (w2.setCell ⟨t, 8, none⟩ l1) t (cs.setIfInBounds 8 l1) lv wv l l1 wX a d (vl ++ [x]) vw ma md P := by
  have K1 : Kp (ob lX) W w2 := k1.cons (grown_ob hg)
  have tl : t ∉ ob lX := fun hm => h.ol.off h.row (by decide) t hm rfl
  have hrow2 := K1.heap h.row tl
  have kt : Kp [t] w2 (w2.setCell ⟨t, 8, none⟩ l1) := (Kp.refl [t] w2).setCell (.inl (by simp)) l1
  have K2 : Kp (t :: ob lX) W (w2.setCell ⟨t, 8, none⟩ l1) := (K1.mono (M := t :: ob lX) (fun m hm => .inl (by simp [hm]))).trans kt (fun m hm => .inl (by rw [List.mem_singleton] at hm; simp [hm]))
  have hb2 : ∀ b ∈ ob l1, b ∈ ob lX ∨ W.heap.size ≤ b := fun b hm => by
    rcases hb b (mem_ob.1 hm) with h1 | h1
    · exact .inl (mem_ob.2 h1)
    · exact .inr (Nat.le_trans k1.size h1)
  have hsz : (w2.setCell ⟨t, 8, none⟩ l1).heap.size = w2.heap.size := by simp
  refine ⟨⟨K1.cell (p := ⟨t, 8, none⟩) ((Array.getElem?_eq_some_iff.1 h.row).1) tl, frozen_of_row w2 t 8 _ _ hrow2⟩, ⟨heap_setCell_same w2 t 8 _ _ l1 hrow2, h.kp.trans K2 (fun m hm => ?_), ?_, ?_, ?_, ?_, fun b hm => ?_, h.bw, fun b hm hn => ?_, h.ba, h.bd, h.bad, fun y hy => ?_⟩⟩
  · rcases List.mem_cons.1 hm with rfl | hm
    · exact .inl (by simp)
    · rcases h.bl m hm with h1 | h1
      · exact .inl (by simp [h1])
      · exact .inr h1
  · exact ho.kp kt (fun b hm hn => by rw [List.mem_singleton] at hn; subst hn; exact ho.off hrow2 (by decide) b (mem_ob.2 hm) rfl)
  · refine h.ow.kp K2 (fun b hm hn => ?_)
    rcases List.mem_cons.1 hn with rfl | hn
    · exact h.ow.off h.row (by decide) b (mem_ob.2 hm) rfl
    · exact h.bn b hn (mem_ob.2 hm)
  · refine h.oa.kp K2 (fun b hm hn => ?_)
    rcases List.mem_cons.1 hn with rfl | hn
    · exact h.oa.off h.row (by decide) b (mem_ob.2 hm) rfl
    · exact h.oa.apart h.ol (by decide) b (mem_ob.2 hm) hn
  · refine h.od.kp K2 (fun b hm hn => ?_)
    rcases List.mem_cons.1 hn with rfl | hn
    · exact h.od.off h.row (by decide) b (mem_ob.2 hm) rfl
    · exact h.od.apart h.ol (by decide) b (mem_ob.2 hm) hn
  · rcases hb2 b hm with h1 | h1
    · exact h.bl b h1
    · exact .inr (Nat.le_trans h.kp.size h1)
  · rcases hb2 b hm with h1 | h1
    · exact h.bn b h1 hn
    · have := h.ow.ltW b hn; omega
  · obtain ⟨h1, h2⟩ := h.pr y hy
    refine ⟨h1.kp K2 (fun b hm hn => ?_), fun b hm => ?_⟩
    · rcases List.mem_cons.1 hn with rfl | hn
      · exact (h2 b (mem_ob.2 hm)).1 rfl
      · exact (h2 b (mem_ob.2 hm)).2.1 hn
    · obtain ⟨q1, q2, q3, q4⟩ := h2 b hm
      refine ⟨q1, fun hn => ?_, q3, Nat.lt_of_lt_of_le q4 (by rw [hsz]; exact K1.size)⟩
      rcases hb2 b hn with h1 | h1
      · exact q2 h1
      · omega
theorem NS.wnt (h : NS w W t cs lv wv l lX wX a d vl vw ma md P) (k1 : Kp [] W W1) {x l1 : Value} (ho : Own w2 0 22 l1 (vw ++ [x])) (hg : W1.grownBy w2 wX.ownBlock) (hb : ∀ b, l1.ownBlock = some b → wX.ownBlock = some b ∨ W1.heap.size ≤ b) :
    (w2.cell? ⟨t, 9, none⟩ = W.cell? ⟨t, 9, none⟩ ∧ w2.frozen? ⟨t, 9, none⟩ = false) ∧ NS w (w2.setCell ⟨t, 9, none⟩ l1) t (cs.setIfInBounds 9 l1) lv wv l lX l1 a d vl (vw ++ [x]) ma md P := by
  have K1 : Kp (ob wX) W w2 := k1.cons (grown_ob hg)
  have tl : t ∉ ob wX := fun hm => h.ow.off h.row (by decide) t hm rfl
  have hrow2 := K1.heap h.row tl
  have kt : Kp [t] w2 (w2.setCell ⟨t, 9, none⟩ l1) := (Kp.refl [t] w2).setCell (.inl (by simp)) l1
  have K2 : Kp (t :: ob wX) W (w2.setCell ⟨t, 9, none⟩ l1) := (K1.mono (M := t :: ob wX) (fun m hm => .inl (by simp [hm]))).trans kt (fun m hm => .inl (by rw [List.mem_singleton] at hm; simp [hm]))
  have hb2 : ∀ b ∈ ob l1, b ∈ ob wX ∨ W.heap.size ≤ b := fun b hm => by
    rcases hb b (mem_ob.1 hm) with h1 | h1
    · exact .inl (mem_ob.2 h1)
    · exact .inr (Nat.le_trans k1.size h1)
  have hsz : (w2.setCell ⟨t, 9, none⟩ l1).heap.size = w2.heap.size := by simp
  refine ⟨⟨K1.cell (p := ⟨t, 9, none⟩) ((Array.getElem?_eq_some_iff.1 h.row).1) tl, frozen_of_row w2 t 9 _ _ hrow2⟩, ⟨heap_setCell_same w2 t 9 _ _ l1 hrow2, h.kp.trans K2 (fun m hm => ?_), ?_, ?_, ?_, ?_, h.bl, fun b hm => ?_, fun b hm hn => ?_, h.ba, h.bd, h.bad, fun y hy => ?_⟩⟩
  · rcases List.mem_cons.1 hm with rfl | hm
    · exact .inl (by simp)
    · rcases h.bw m hm with h1 | h1
      · exact .inl (by simp [h1])
      · exact .inr h1
  · refine h.ol.kp K2 (fun b hm hn => ?_)
    rcases List.mem_cons.1 hn with rfl | hn
    · exact h.ol.off h.row (by decide) b (mem_ob.2 hm) rfl
    · exact h.bn b (mem_ob.2 hm) hn
  · exact ho.kp kt (fun b hm hn => by rw [List.mem_singleton] at hn; subst hn; exact ho.off hrow2 (by decide) b (mem_ob.2 hm) rfl)
  · refine h.oa.kp K2 (fun b hm hn => ?_)
    rcases List.mem_cons.1 hn with rfl | hn
    · exact h.oa.off h.row (by decide) b (mem_ob.2 hm) rfl
    · exact h.oa.apart h.ow (by decide) b (mem_ob.2 hm) hn
  · refine h.od.kp K2 (fun b hm hn => ?_)
    rcases List.mem_cons.1 hn with rfl | hn
    · exact h.od.off h.row (by decide) b (mem_ob.2 hm) rfl
    · exact h.od.apart h.ow (by decide) b (mem_ob.2 hm) hn
  · rcases hb2 b hm with h1 | h1
    · exact h.bw b h1
    · exact .inr (Nat.le_trans h.kp.size h1)
  · rcases hb2 b hn with h1 | h1
    · exact h.bn b hm h1
    · have := h.ol.ltW b hm; omega
  · obtain ⟨h1, h2⟩ := h.pr y hy
    refine ⟨h1.kp K2 (fun b hm hn => ?_), fun b hm => ?_⟩
    · rcases List.mem_cons.1 hn with rfl | hn
      · exact (h2 b (mem_ob.2 hm)).1 rfl
      · exact (h2 b (mem_ob.2 hm)).2.2.1 hn
    · obtain ⟨q1, q2, q3, q4⟩ := h2 b hm
      refine ⟨q1, q2, fun hn => ?_, Nat.lt_of_lt_of_le q4 (by rw [hsz]; exact K1.size)⟩
      rcases hb2 b hn with h1 | h1
      · exact q3 h1
      · omega
theorem NS.itA (h : NS w W t cs lv wv l lX wX a d vl vw ma md P) (k1 : Kp [] W W1) {a' : Value} {ma' : List UInt8} (ho : Own w2 0 5 a' (bv ma')) (hg : W1.grownBy w2 a.ownBlock) (hb : ∀ b, a'.ownBlock = some b → a.ownBlock = some b ∨ W1.heap.size ≤ b) (hr : Rd w2 a (bv ma)) (hp : ∀ x ∈ P, ∀ b ∈ ob x.1, b ∉ ob a) :
    NS w w2 t cs lv wv l lX wX a' d vl vw ma' md ((a, ma) :: P) := by
  have K1 : Kp (ob a) W w2 := k1.cons (grown_ob hg)
  have hb2 : ∀ b ∈ ob a', b ∈ ob a ∨ W.heap.size ≤ b := fun b hm => by
    rcases hb b (mem_ob.1 hm) with h1 | h1
    · exact .inl (mem_ob.2 h1)
    · exact .inr (Nat.le_trans k1.size h1)
  refine ⟨K1.heap h.row (fun hm => h.oa.off h.row (by decide) t hm rfl), h.kp.trans K1 (fun m hm => ?_), h.ol.kp K1 (fun b hm hn => h.ol.apart h.oa (by decide) b (mem_ob.2 hm) hn), h.ow.kp K1 (fun b hm hn => h.ow.apart h.oa (by decide) b (mem_ob.2 hm) hn), ho, h.od.kp K1 (fun b hm hn => h.bad b hn (mem_ob.2 hm)), h.bl, h.bw, h.bn, fun b hm => ?_, h.bd, fun b hm hn => ?_, fun y hy => ?_⟩
  · rcases h.ba m hm with h1 | h1
    · exact .inl (by simp [h1])
    · exact .inr h1
  · rcases hb2 b hm with h1 | h1
    · exact h.ba b h1
    · exact .inr (Nat.le_trans h.kp.size h1)
  · rcases hb2 b hm with h1 | h1
    · exact h.bad b h1 hn
    · have := h.od.ltW b hn; omega
  · rcases List.mem_cons.1 hy with rfl | hy
    · exact ⟨hr, fun b hm => ⟨h.oa.off h.row (by decide) b hm, h.oa.apart h.ol (by decide) b hm, h.oa.apart h.ow (by decide) b hm, Nat.lt_of_lt_of_le (h.oa.ltW b hm) K1.size⟩⟩
    · obtain ⟨h1, h2⟩ := h.pr y hy
      exact ⟨h1.kp K1 (fun b hm hn => hp y hy b (mem_ob.2 hm) hn), fun b hm => ⟨(h2 b hm).1, (h2 b hm).2.1, (h2 b hm).2.2.1, Nat.lt_of_lt_of_le (h2 b hm).2.2.2 K1.size⟩⟩
theorem NS.itD (h : NS w W t cs lv wv l lX wX a d vl vw ma md P) (k1 : Kp [] W W1) {d' : Value} {md' : List UInt8} (ho : Own w2 0 5 d' (bv md')) (hg : W1.grownBy w2 d.ownBlock) (hb : ∀ b, d'.ownBlock = some b → d.ownBlock = some b ∨ W1.heap.size ≤ b) (hr : Rd w2 d (bv md)) (hp : ∀ x ∈ P, ∀ b ∈ ob x.1, b ∉ ob d) :
    NS w w2 t cs lv wv l lX wX a d' vl vw ma md' ((d, md) :: P) := by
  have K1 : Kp (ob d) W w2 := k1.cons (grown_ob hg)
  have hb2 : ∀ b ∈ ob d', b ∈ ob d ∨ W.heap.size ≤ b := fun b hm => by
    rcases hb b (mem_ob.1 hm) with h1 | h1
    · exact .inl (mem_ob.2 h1)
    · exact .inr (Nat.le_trans k1.size h1)
  refine ⟨K1.heap h.row (fun hm => h.od.off h.row (by decide) t hm rfl), h.kp.trans K1 (fun m hm => .inr (h.bd m hm)), h.ol.kp K1 (fun b hm hn => h.ol.apart h.od (by decide) b (mem_ob.2 hm) hn), h.ow.kp K1 (fun b hm hn => h.ow.apart h.od (by decide) b (mem_ob.2 hm) hn), h.oa.kp K1 (fun b hm hn => h.bad b (mem_ob.2 hm) hn), ho, h.bl, h.bw, h.bn, h.ba, fun b hm => ?_, fun b hm hn => ?_, fun y hy => ?_⟩
  · rcases hb2 b hm with h1 | h1
    · exact h.bd b h1
    · exact Nat.le_trans h.kp.size h1
  · rcases hb2 b hn with h1 | h1
    · exact h.bad b hm h1
    · have := h.oa.ltW b hm; omega
  · rcases List.mem_cons.1 hy with rfl | hy
    · exact ⟨hr, fun b hm => ⟨h.od.off h.row (by decide) b hm, h.od.apart h.ol (by decide) b hm, h.od.apart h.ow (by decide) b hm, Nat.lt_of_lt_of_le (h.od.ltW b hm) K1.size⟩⟩
    · obtain ⟨h1, h2⟩ := h.pr y hy
      exact ⟨h1.kp K1 (fun b hm hn => hp y hy b (mem_ob.2 hm) hn), fun b hm => ⟨(h2 b hm).1, (h2 b hm).2.1, (h2 b hm).2.2.1, Nat.lt_of_lt_of_le (h2 b hm).2.2.2 K1.size⟩⟩
/-- nothing but new blocks -/
theorem NS.kp0 (h : NS w W t cs lv wv l lX wX a d vl vw ma md P) (k : Kp [] W w2) : NS w w2 t cs lv wv l lX wX a d vl vw ma md P :=
  ⟨k.heap h.row (by simp), h.kp.trans0 k, h.ol.kp0 k, h.ow.kp0 k, h.oa.kp0 k, h.od.kp0 k, h.bl, h.bw, h.bn, h.ba, h.bd, h.bad, fun y hy => ⟨(h.pr y hy).1.kp0 k, fun b hm => ⟨((h.pr y hy).2 b hm).1, ((h.pr y hy).2 b hm).2.1, ((h.pr y hy).2 b hm).2.2.1, Nat.lt_of_lt_of_le ((h.pr y hy).2 b hm).2.2.2 k.size⟩⟩⟩
end
end Go.Proofs.Ytkceaepbjdfccaa
