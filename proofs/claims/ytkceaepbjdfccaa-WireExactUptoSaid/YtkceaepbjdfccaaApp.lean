/-
append onto what the call owns: where the result lies.
-/
import Derived.Test.YtkceaepbjdfccaaSub
namespace Go.Proofs.Ytkceaepbjdfccaa
open Go.RowKit
section
variable {P : Program} {w : World} {ops : Array Oper} {rest : List Oper} {o : Oper} {a : Act} {Q : Exit → Act → World → Prop} {K : Act → World → Prop} {t e : TypeId} {z : Value} {bytes : Nat}
theorem growBy_le (n : Nat) : ∀ (r c : Nat), Builtin.growBy n r c ≤ max c (n + (n + 768) / 4)
  | 0, c => Nat.le_max_left _ _
  | r + 1, c => by
    unfold Builtin.growBy
    split
    · exact Nat.le_max_left _ _
    · have := growBy_le n r (c + (c + 768) / 4)
      omega
theorem fits_bytes {need old : Nat} (h : need ≤ 211106232532992) (ho : old < need) : Builtin.nextslicecap need old * 1 ≤ 281474976710656 := by
  unfold Builtin.nextslicecap
  split
  · omega
  · split
    · omega
    · have := growBy_le need 4 old
      omega
theorem run_appG (E : El P t e z bytes) (ty : TypeId) {B : Nat} {v src : Value} {xs news : List Value} (hown : Own w B e v xs) (hsrc : Rd w src news) (h1 : ∀ u ∈ news, u.oneCell' = true)
    (hl : xs.length + news.length ≤ 281474976710656) (hb0 : news.length * bytes ≤ 281474976710656) (hfit : ∀ c, c < xs.length + news.length → Builtin.nextslicecap (xs.length + news.length) c * bytes ≤ 281474976710656) (hB : B ≤ w.heap.size) :
    ∃ v' w', (Builtin.append_ #[t, t] ty #[v, src]).run P w = .ok v' w' ∧ Own w' B e v' (xs ++ news) ∧ w.grownBy w' v.ownBlock ∧ (∀ b, v'.ownBlock = some b → v.ownBlock = some b ∨ w.heap.size ≤ b) := by
  obtain ⟨i, hi, hz0, hz1, hz2⟩ := info_parts E.hi
  obtain ⟨ao, cap', rfl, hc1, hc2, hc3⟩ := hsrc
  cases ao with
  | none =>
    obtain rfl := hc2 rfl
    obtain rfl : news = [] := List.eq_nil_of_length_eq_zero (by omega)
    exact ⟨v, w, run_append_owned_none w B t ty e i 1 E.ht hi _ _ xs hown, by simpa using hown, World.grownBy.refl _ _, fun b hb => .inl hb⟩
  | some ad =>
    have grown : ∀ (old : Nat), old < xs.length + news.length → ∀ (row : Option Nat),
        Own (w.drew.alloc (.cells (xs.toArray ++ news.toArray ++ Builtin.zeroCells z.cells (grownCap w (xs.length + news.length) old e - (xs.length + news.length))) e)) w.heap.size e
          (.slice (some ⟨w.heap.size, 0, none⟩) (xs.length + news.length) (grownCap w (xs.length + news.length) old e)) (xs ++ news) ∧
        w.grownBy (w.drew.alloc (.cells (xs.toArray ++ news.toArray ++ Builtin.zeroCells z.cells (grownCap w (xs.length + news.length) old e - (xs.length + news.length))) e)) row := by
      intro old ho row
      have hge := grownCap_ge w (xs.length + news.length) old e
      have hcm : grownCap w (xs.length + news.length) old e ≤ maxLen := grownCap_le_maxLen w _ old e (by unfold maxLen; omega)
      refine ⟨⟨by simp, .inr ⟨w.heap.size, _, _, by rw [List.length_append], Nat.le_refl _, heap_alloc_new w.drew _, by rw [List.length_append]; exact hge, hcm, ?_, ?_⟩⟩, ⟨rfl, rfl, rfl, by simp, fun k hk _ => Below.heap_alloc w.drew _ k hk⟩⟩
      · simp only [Array.size_append, List.size_toArray, size_zeroCells, E.hz]
        omega
      · simp only [Array.toList_append, Nat.mul_one]
        exact List.take_left' (by simp)
    rcases hown.2 with ⟨rfl, hn0⟩ | ⟨g, cap, cur, rfl, hb', hg, hn, hm, hs, ht⟩
    · obtain rfl : xs = [] := List.eq_nil_of_length_eq_zero hn0
      by_cases hm : news.length = 0
      · obtain rfl : news = [] := List.eq_nil_of_length_eq_zero hm
        refine ⟨.slice none 0 0, w, ?_, Own.nil _ _ _, World.grownBy.refl _ _, fun b hb => by cases hb⟩
        obtain ⟨v', w', hr, h2, h3, _⟩ := run_append_own (P := P) w B t ty e i z 1 bytes E.ht hi hz0 hz1 hz2 E.hz (by omega) (.slice none 0 0) 0 [] (World.ownsRow_nil w B e 1) ad 0 cap' [] (by simp) (fun j u hu => by cases hu) (fun u hu => by cases hu) (by simp) (by simp) hB
        simp [Builtin.append_, run_underlying E.ht, sizeOf, typeInfo, hi, Builtin.lenOf, Builtin.firstCells, loadCells, loadCellsFrom]
      · have hr := run_append_nil (P := P) w t ty e i z E.ht hi hz0 ad news.length cap' news (by rw [hz1, Nat.mul_one]) (hc3 ad rfl) (by omega) (by simp at hl; omega) (by rw [hz2]; exact hb0)
        have hgr := grown 0 (by simp; omega) (Value.ownBlock (.slice none 0 0))
        simp only [List.length_nil, Nat.zero_add, List.nil_append, Array.empty_append] at hgr ⊢
        exact ⟨_, _, hr, hgr.1.base hB, hgr.2, fun b hb => .inr (hgr.1.lt hb).1⟩
    · by_cases hroom : xs.length + news.length ≤ cap
      · obtain ⟨w', hrun, r1, r2⟩ := run_append_fits (P := P) w B t ty e i 1 E.ht hi hz1 g xs.length cap xs hown ad news.length cap' news (by simp) (hc3 ad rfl) h1 hroom
        exact ⟨_, w', hrun, by unfold Own; rw [List.length_append]; exact r1, r2, fun b hb => .inl hb⟩
      · have hr := run_append_grow (P := P) w t ty e i z E.ht hi hz0 ⟨g, 0, none⟩ xs.length cap xs (by rw [hz1, Nat.mul_one]) (hown.cells rfl) ad news.length cap' news (by rw [hz1, Nat.mul_one]) (hc3 ad rfl) (by omega) (by omega) (by rw [hz2]; exact hfit cap (by omega))
        have hgr := grown cap (by omega) (some g)
        exact ⟨_, _, hr, hgr.1.base hB, hgr.2, fun b hb => .inr (hgr.1.lt hb).1⟩
theorem op_append3 (E : El P t e z 1) (s x : Operand) (hop : o.op = Op.call { callee := Callee.builtin Builtin.append, args := #[s, x], argTypes := #[t, t] })
    {B : Nat} {v src : Value} {xs news : List Value} (hs : a.eval s = v) (hx : a.eval x = src) (hown : Own w B e v xs) (hsrc : Rd w src news) (h1 : ∀ u ∈ news, u.oneCell' = true)
    (hl : xs.length + news.length ≤ 211106232532992) (hB : B ≤ w.heap.size)
    (hK : ∀ v' w', Own w' B e v' (xs ++ news) → w.grownBy w' v.ownBlock → (∀ b, v'.ownBlock = some b → v.ownBlock = some b ∨ w.heap.size ≤ b) → K (a.put o.dst v') w') : o.wp P a w K Q := by
  obtain ⟨v', w', hr, h2, h3, h4⟩ := run_appG (P := P) E o.type hown hsrc h1 (by omega) (by omega) (fun c hc => fits_bytes hl hc) hB
  unfold Oper.wp
  simp [execOp, hop, resolve, invoke, builtin, hs, hx, hr, Result.andThen]
  exact hK v' w' h2 h3 h4
/-- append of bytes, up to one and a half times the reach of one slice -/
theorem wpl_append3 (E : El P t e z 1) (hg : o.guard = none) (s x : Operand) (hop : o.op = Op.call { callee := Callee.builtin Builtin.append, args := #[s, x], argTypes := #[t, t] })
    {B : Nat} {v src : Value} {xs news : List Value} (hs : a.eval s = v) (hx : a.eval x = src) (hown : Own w B e v xs) (hsrc : Rd w src news) (h1 : ∀ u ∈ news, u.oneCell' = true)
    (hl : xs.length + news.length ≤ 211106232532992) (hB : B ≤ w.heap.size)
    (hK : ∀ v' w', Own w' B e v' (xs ++ news) → w.grownBy w' v.ownBlock → (∀ b, v'.ownBlock = some b → v.ownBlock = some b ∨ w.heap.size ≤ b) → wpList P ops Q rest (a.put o.dst v') w') : wpList P ops Q (o :: rest) a w :=
  wpList_plain hg fun _ hK' => op_append3 E s x hop hs hx hown hsrc h1 hl hB (fun v' w' p q r => hK' _ _ (hK v' w' p q r))
theorem run_app2 (E : El P t e z bytes) (ty : TypeId) {B : Nat} {v src : Value} {xs news : List Value} (hown : Own w B e v xs) (hsrc : Rd w src news) (h1 : ∀ u ∈ news, u.oneCell' = true)
    (hl : xs.length + news.length ≤ 140737488355328) (hb : (xs.length + news.length) * bytes ≤ 140737488355328) (hB : B ≤ w.heap.size) :
    ∃ v' w', (Builtin.append_ #[t, t] ty #[v, src]).run P w = .ok v' w' ∧ Own w' B e v' (xs ++ news) ∧ w.grownBy w' v.ownBlock ∧ (∀ b, v'.ownBlock = some b → v.ownBlock = some b ∨ w.heap.size ≤ b) := by
  obtain ⟨i, hi, hz0, hz1, hz2⟩ := info_parts E.hi
  rcases hown.2 with ⟨rfl, hn0⟩ | ⟨g, cap, cur, rfl, hb', hg, hn, hm, hs, ht⟩
  · obtain rfl : xs = [] := List.eq_nil_of_length_eq_zero hn0
    obtain ⟨v', w', hr, ho, hgr⟩ := run_app E ty (B := w.heap.size) (Own.nil w _ e) hsrc h1 hl hb (Nat.le_refl _)
    exact ⟨v', w', hr, ho.base hB, hgr, fun b hb => .inr (ho.lt hb).1⟩
  · by_cases hroom : xs.length + news.length ≤ cap
    · obtain ⟨ao, cap', rfl, hc1, hc2, hc3⟩ := hsrc
      cases ao with
      | none =>
        obtain rfl := hc2 rfl
        obtain rfl : news = [] := List.eq_nil_of_length_eq_zero (by omega)
        exact ⟨_, w, run_append_owned_none w B t ty e i 1 E.ht hi _ _ xs hown, by simpa using hown, World.grownBy.refl _ _, fun b hb => .inl hb⟩
      | some ad =>
        obtain ⟨w', hrun, r1, r2⟩ := run_append_fits (P := P) w B t ty e i 1 E.ht hi hz1 g xs.length cap xs hown ad news.length cap' news (by simp) (hc3 ad rfl) h1 hroom
        exact ⟨_, w', hrun, by unfold Own; rw [List.length_append]; exact r1, r2, fun b hb => .inl hb⟩
    · obtain ⟨ao, cap', rfl, hc1, hc2, hc3⟩ := hsrc
      cases ao with
      | none =>
        have := hc2 rfl
        omega
      | some ad =>
        have holds := hown.rd
        obtain ⟨a0, c0, he, _, _, h3⟩ := holds
        simp only [Value.slice.injEq] at he
        obtain ⟨rfl, _, rfl⟩ := he
        obtain ⟨v', w', hrun, r1, r2⟩ := run_append_arg_grows (P := P) w t ty e i z 1 bytes E.ht hi hz0 hz1 hz2 E.hz (by omega) ⟨g, 0, none⟩ xs.length cap xs (by simp) (h3 _ rfl) ad news.length cap' news (by simp) (hc3 ad rfl) (by omega) (by unfold maxLen; omega) hb
        have r1' : Own w' w.heap.size e v' (xs ++ news) := by unfold Own; rw [List.length_append]; exact r1
        refine ⟨v', w', hrun, r1'.base hB, ⟨r2.os, r2.tape, r2.output, r2.size, fun k hk _ => r2.block k hk (by simp)⟩, fun b hb => .inr (r1'.lt hb).1⟩
theorem op_append2 (E : El P t e z bytes) (s x : Operand) (hop : o.op = Op.call { callee := Callee.builtin Builtin.append, args := #[s, x], argTypes := #[t, t] })
    {B : Nat} {v src : Value} {xs news : List Value} (hs : a.eval s = v) (hx : a.eval x = src) (hown : Own w B e v xs) (hsrc : Rd w src news) (h1 : ∀ u ∈ news, u.oneCell' = true)
    (hl : xs.length + news.length ≤ 140737488355328) (hb : (xs.length + news.length) * bytes ≤ 140737488355328) (hB : B ≤ w.heap.size)
    (hK : ∀ v' w', Own w' B e v' (xs ++ news) → w.grownBy w' v.ownBlock → (∀ b, v'.ownBlock = some b → v.ownBlock = some b ∨ w.heap.size ≤ b) → K (a.put o.dst v') w') : o.wp P a w K Q := by
  obtain ⟨v', w', hr, h2, h3, h4⟩ := run_app2 (P := P) E o.type hown hsrc h1 hl hb hB
  unfold Oper.wp
  simp [execOp, hop, resolve, invoke, builtin, hs, hx, hr, Result.andThen]
  exact hK v' w' h2 h3 h4
theorem wpl_append2 (E : El P t e z bytes) (hg : o.guard = none) (s x : Operand) (hop : o.op = Op.call { callee := Callee.builtin Builtin.append, args := #[s, x], argTypes := #[t, t] })
    {B : Nat} {v src : Value} {xs news : List Value} (hs : a.eval s = v) (hx : a.eval x = src) (hown : Own w B e v xs) (hsrc : Rd w src news) (h1 : ∀ u ∈ news, u.oneCell' = true)
    (hl : xs.length + news.length ≤ 140737488355328) (hb : (xs.length + news.length) * bytes ≤ 140737488355328) (hB : B ≤ w.heap.size)
    (hK : ∀ v' w', Own w' B e v' (xs ++ news) → w.grownBy w' v.ownBlock → (∀ b, v'.ownBlock = some b → v.ownBlock = some b ∨ w.heap.size ≤ b) → wpList P ops Q rest (a.put o.dst v') w') : wpList P ops Q (o :: rest) a w :=
  wpList_plain hg fun _ hK' => op_append2 E s x hop hs hx hown hsrc h1 hl hb hB (fun v' w' p q r => hK' _ _ (hK v' w' p q r))
theorem step_append2 (E : El P t e z bytes) {F : Prop} (hg : o.guard = none) (s x : Operand) (hop : o.op = Op.call { callee := Callee.builtin Builtin.append, args := #[s, x], argTypes := #[t, t] })
    {B : Nat} {v src : Value} {xs news : List Value} (hs : a.eval s = v) (hx : a.eval x = src) (hown : Own w B e v xs) (hsrc : Rd w src news) (h1 : ∀ u ∈ news, u.oneCell' = true)
    (hl : xs.length + news.length ≤ 140737488355328) (hb : (xs.length + news.length) * bytes ≤ 140737488355328) (hB : B ≤ w.heap.size)
    (hK : ∀ v' w', Own w' B e v' (xs ++ news) → w.grownBy w' v.ownBlock → (∀ b, v'.ownBlock = some b → v.ownBlock = some b ∨ w.heap.size ≤ b) → K (a.put o.dst v') w') :
    if Region.wanted o (yielded ops a.tmps) = true then Oper.wp P o a w K Q else F := by
  rw [if_pos (by simp [Region.wanted, hg])]
  exact op_append2 E s x hop hs hx hown hsrc h1 hl hb hB hK
end
end Go.Proofs.Ytkceaepbjdfccaa
