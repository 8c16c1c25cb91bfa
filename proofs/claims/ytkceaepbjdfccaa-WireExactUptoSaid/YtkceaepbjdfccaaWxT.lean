/-
Many things of one's own beside each other: to whom each block belongs, and what a call leaves as it was.
-/
import Derived.Test.YtkceaepbjdfccaaRead3
namespace Go.Proofs.Ytkceaepbjdfccaa
open Go.RowKit

/-- said of a world, of a set of blocks and of a value -/
def Pr := World → (Nat → Prop) → Value → Prop
/-- it looks at these blocks alone -/
structure Frm (D : Pr) : Prop where
  fr : ∀ {w w' : World} {F F' : Nat → Prop} {v : Value} {L : List Nat}, D w F v → Kp L w w' → (∀ b ∈ L, ¬ F b) → (∀ b, F b → F' b) → D w' F' v

/-- the items of the book: each list beside what it must hold -/
def Items (w : World) (F : Nat → Prop) (vl vw : List Value) (xs : List (List UInt8)) : Prop :=
  vl.length = xs.length ∧ vw.length = xs.length ∧
  ∀ (i : Nat) (x : List UInt8), xs[i]? = some x → ∃ a c, vl[i]? = some a ∧ vw[i]? = some c ∧ Rd w a (bv x) ∧ Rd w c (bv x) ∧ (∀ b ∈ ob a, F b) ∧ (∀ b ∈ ob c, F b) ∧ x.length ≤ 4000000
theorem Items.fr {w w' : World} {F F' : Nat → Prop} {vl vw : List Value} {xs : List (List UInt8)} {L : List Nat} (h : Items w F vl vw xs) (k : Kp L w w') (hL : ∀ b ∈ L, ¬ F b) (hF : ∀ b, F b → F' b) : Items w' F' vl vw xs := by
  refine ⟨h.1, h.2.1, fun i x hx => ?_⟩
  obtain ⟨a, c, h1, h2, h3, h4, h5, h6, h7⟩ := h.2.2 i x hx
  exact ⟨a, c, h1, h2, h3.kp k (fun b hb hm => hL b hm (h5 b (mem_ob.2 hb))), h4.kp k (fun b hb hm => hL b hm (h6 b (mem_ob.2 hb))), fun b hb => hF b (h5 b hb), fun b hb => hF b (h6 b hb), h7⟩
/-- one more -/
theorem Items.snoc {w : World} {F : Nat → Prop} {vl vw : List Value} {xs : List (List UInt8)} (h : Items w F vl vw xs) {a c : Value} {x : List UInt8} (h3 : Rd w a (bv x)) (h4 : Rd w c (bv x)) (h5 : ∀ b ∈ ob a, F b) (h6 : ∀ b ∈ ob c, F b) (h7 : x.length ≤ 4000000) :
    Items w F (vl ++ [a]) (vw ++ [c]) (xs ++ [x]) := by
  refine ⟨by simp [h.1], by simp [h.2.1], fun i y hy => ?_⟩
  by_cases hi : i < xs.length
  · rw [List.getElem?_append_left hi] at hy
    obtain ⟨a', c', g1, g2, g⟩ := h.2.2 i y hy
    exact ⟨a', c', by rw [List.getElem?_append_left (by rw [h.1]; exact hi)]; exact g1, by rw [List.getElem?_append_left (by rw [h.2.1]; exact hi)]; exact g2, g⟩
  · have hlt := (List.getElem?_eq_some_iff.1 hy).1
    simp at hlt
    obtain rfl : i = xs.length := by omega
    simp only [List.getElem?_append_right (Nat.le_refl _), Nat.sub_self, List.getElem?_cons_zero, Option.some.injEq] at hy
    subst hy
    refine ⟨a, c, ?_, ?_, h3, h4, h5, h6, h7⟩
    · rw [← h.1, List.getElem?_append_right (Nat.le_refl _), Nat.sub_self]; rfl
    · rw [← h.2.1, List.getElem?_append_right (Nat.le_refl _), Nat.sub_self]; rfl

/-- the book -/
structure Bk (w : World) (o : Nat → Nat) (lv wv : Value) (n : Nat) : Prop where
  ex : ∃ (vl vw : List Value) (xs : List (List UInt8)) (B : Nat), B ≤ w.heap.size ∧ Own w B 22 lv vl ∧ Own w B 22 wv vw ∧ Items w (fun b => o b = 30) vl vw xs ∧ xs.length = n
  ol : ∀ b ∈ ob lv, o b = 28
  ow : ∀ b ∈ ob wv, o b = 29
theorem Bk.fr {w w' : World} {o o' : Nat → Nat} {lv wv : Value} {n : Nat} {L : List Nat} (h : Bk w o lv wv n) (k : Kp L w w') (hL : ∀ b ∈ L, o b ≠ 28 ∧ o b ≠ 29 ∧ o b ≠ 30) (ho : ∀ b, 28 ≤ o b → o' b = o b) : Bk w' o' lv wv n := by
  obtain ⟨⟨vl, vw, xs, B, hB, h1, h2, h3, h4⟩, h5, h6⟩ := h
  refine ⟨⟨vl, vw, xs, B, Nat.le_trans hB k.size, h1.kp k (fun b hb hm => (hL b hm).1 (h5 b (mem_ob.2 hb))), h2.kp k (fun b hb hm => (hL b hm).2.1 (h6 b (mem_ob.2 hb))), h3.fr k (fun b hb => (hL b hb).2.2) (fun b hb => ?_), h4⟩, fun b hb => ?_, fun b hb => ?_⟩
  · show o' b = 30
    have hb' : o b = 30 := hb
    rw [ho b (by omega)]; exact hb'
  · have := h5 b hb; rw [ho b (by omega)]; exact this
  · have := h6 b hb; rw [ho b (by omega)]; exact this

/-- f, but u at i -/
def upd {α : Type} (f : Nat → α) (i : Nat) (u : α) : Nat → α := fun j => if j = i then u else f j
theorem upd_same {α : Type} (f : Nat → α) (i : Nat) (u : α) : upd f i u i = u := by unfold upd; rw [if_pos rfl]
theorem upd_ne {α : Type} (f : Nat → α) {i j : Nat} (u : α) (h : j ≠ i) : upd f i u j = f j := by unfold upd; rw [if_neg h]

/-- the table t, with eight things (C) and the book -/
structure WX (w0 w : World) (o : Nat → Nat) (t : Nat) (C : Nat → Pr) (vs : Nat → Value) (n : Nat) : Prop where
  kp : Kp [] w0 w
  old : ∀ b, o b ≠ 0 → w0.heap.size ≤ b ∧ b < w.heap.size
  ot : o t = 1
  row : ∃ cs, w.heap[t]? = some (.cells cs 92 (0, 0)) ∧ cs.size = 10 ∧ ∀ i, i < 10 → cs[i]? = some (vs i)
  c : ∀ i, i < 8 → C i w (fun b => o b = 20 + i) (vs i)
  fc : ∀ i, i < 8 → Frm (C i)
  bk : Bk w o (vs 8) (vs 9) n

theorem WX.cell {w0 w : World} {o : Nat → Nat} {t : Nat} {C : Nat → Pr} {vs : Nat → Value} {n : Nat} (h : WX w0 w o t C vs n) (i : Nat) (hi : i < 10) : w.cell? ⟨t, i, none⟩ = some (vs i) := by
  obtain ⟨cs, h1, h2, h3⟩ := h.row
  rw [cell_of_row w t i _ _ _ h1]; exact h3 i hi
theorem WX.frz {w0 w : World} {o : Nat → Nat} {t : Nat} {C : Nat → Pr} {vs : Nat → Value} {n : Nat} (h : WX w0 w o t C vs n) (i : Nat) : w.frozen? ⟨t, i, none⟩ = false := by
  obtain ⟨cs, h1, h2, h3⟩ := h.row
  exact frozen_of_row w t i _ _ h1
theorem WX.new {w0 w : World} {o : Nat → Nat} {t : Nat} {C : Nat → Pr} {vs : Nat → Value} {n : Nat} (h : WX w0 w o t C vs n) {b : Nat} (hb : w.heap.size ≤ b) : o b = 0 := by
  by_cases h0 : o b = 0
  · exact h0
  · have := (h.old b h0).2; omega
/-- only blocks that nobody has are written -/
theorem WX.tmp {w0 w w' : World} {o : Nat → Nat} {t : Nat} {C : Nat → Pr} {vs : Nat → Value} {n : Nat} {L : List Nat} (h : WX w0 w o t C vs n) (k : Kp L w w') (hL : ∀ b ∈ L, o b = 0 ∧ w0.heap.size ≤ b) : WX w0 w' o t C vs n := by
  refine ⟨h.kp.trans k (fun m hm => .inr (hL m hm).2), fun b hb => ⟨(h.old b hb).1, Nat.lt_of_lt_of_le (h.old b hb).2 k.size⟩, h.ot, ?_, fun i hi => (h.fc i hi).fr (h.c i hi) k (fun b hb => ?_) (fun _ hb => hb), h.fc, h.bk.fr k (fun b hb => ?_) (fun _ _ => rfl)⟩
  · obtain ⟨cs, h1, h2, h3⟩ := h.row
    exact ⟨cs, k.heap h1 (fun hm => by have := (hL t hm).1; have := h.ot; omega), h2, h3⟩
  · have := (hL b hb).1; show ¬ o b = 20 + i; omega
  · have := (hL b hb).1; omega
theorem WX.kp0 {w0 w w' : World} {o : Nat → Nat} {t : Nat} {C : Nat → Pr} {vs : Nat → Value} {n : Nat} (h : WX w0 w o t C vs n) (k : Kp [] w w') : WX w0 w' o t C vs n := h.tmp k (by simp)

/-- these blocks are from now on of class c -/
def asg (o : Nat → Nat) (L : List Nat) (c : Nat) : Nat → Nat := fun b => if b ∈ L then c else o b
theorem asg_in {o : Nat → Nat} {L : List Nat} {c b : Nat} (h : b ∈ L) : asg o L c b = c := by unfold asg; rw [if_pos h]
theorem asg_out {o : Nat → Nat} {L : List Nat} {c b : Nat} (h : b ∉ L) : asg o L c b = o b := by unfold asg; rw [if_neg h]

/-- a call that writes what belongs to thing i alone -/
theorem WX.call {w0 w w' : World} {o : Nat → Nat} {t : Nat} {C : Nat → Pr} {vs : Nat → Value} {n : Nat} {L L' : List Nat} (h : WX w0 w o t C vs n) (i : Nat) (hi : i < 8) (k : Kp L w w') (hL : ∀ b ∈ L, o b = 20 + i)
    (hL' : ∀ b ∈ L', o b = 20 + i ∨ (w.heap.size ≤ b ∧ b < w'.heap.size)) {D : Pr} (fD : Frm D) (hD : D w' (fun b => b ∈ L') (vs i)) :
    WX w0 w' (asg o L' (20 + i)) t (upd C i D) vs n ∧ ∀ b, o b = 0 → b < w.heap.size → asg o L' (20 + i) b = 0 := by
  have hoo : ∀ b, o b ≠ 0 → asg o L' (20 + i) b = o b := fun b hb => by
    by_cases hm : b ∈ L'
    · rw [asg_in hm]
      rcases hL' b hm with h' | h'
      · exact h'.symm
      · exact absurd (h.new h'.1) hb
    · exact asg_out hm
  refine ⟨⟨h.kp.trans k (fun m hm => .inr (h.old m (by have := hL m hm; omega)).1), fun b hb => ?_, by rw [hoo t (by rw [h.ot]; omega)]; exact h.ot, ?_, fun j hj => ?_, fun j hj => ?_, h.bk.fr k (fun b hb => by have := hL b hb; omega) (fun b hb => hoo b (by omega))⟩, fun b hb hlt => ?_⟩
  · by_cases hm : b ∈ L'
    · rcases hL' b hm with h' | h'
      · have := h.old b (by omega); exact ⟨this.1, Nat.lt_of_lt_of_le this.2 k.size⟩
      · exact ⟨Nat.le_trans h.kp.size h'.1, h'.2⟩
    · rw [asg_out hm] at hb
      have := h.old b hb; exact ⟨this.1, Nat.lt_of_lt_of_le this.2 k.size⟩
  · obtain ⟨cs, h1, h2, h3⟩ := h.row
    exact ⟨cs, k.heap h1 (fun hm => by have := hL t hm; have := h.ot; omega), h2, h3⟩
  · by_cases hji : j = i
    · subst hji
      rw [upd_same]
      exact fD.fr hD (Kp.refl [] w') (by simp) (fun b hb => asg_in hb)
    · rw [upd_ne _ _ hji]
      refine (h.fc j hj).fr (h.c j hj) k (fun b hb => ?_) (fun b hb => ?_)
      · have := hL b hb; show ¬ o b = 20 + j; omega
      · have hb' : o b = 20 + j := hb
        show asg o L' (20 + i) b = 20 + j
        rw [hoo b (by omega)]; exact hb'
  · by_cases hji : j = i
    · subst hji; rw [upd_same]; exact fD
    · rw [upd_ne _ _ hji]; exact h.fc j hj
  · by_cases hm : b ∈ L'
    · rcases hL' b hm with h' | h' <;> omega
    · rw [asg_out hm]; exact hb

/-- thing i is from now on another one, of blocks that nobody had -/
theorem WX.store {w0 w : World} {o : Nat → Nat} {t : Nat} {C : Nat → Pr} {vs : Nat → Value} {n : Nat} {L' : List Nat} (h : WX w0 w o t C vs n) (i : Nat) (hi : i < 8)
    (hL' : ∀ b ∈ L', o b = 0 ∧ w0.heap.size ≤ b ∧ b < w.heap.size) {D : Pr} (fD : Frm D) (u : Value) (hD : D w (fun b => b ∈ L') u) :
    WX w0 (w.setCell ⟨t, i, none⟩ u) (asg o L' (20 + i)) t (upd C i D) (upd vs i u) n ∧ ∀ b, b ∉ L' → asg o L' (20 + i) b = o b := by
  obtain ⟨cs, h1, h2, h3⟩ := h.row
  have k : Kp [t] w (w.setCell ⟨t, i, none⟩ u) := (Kp.refl [t] w).setCell (.inl (by simp)) u
  have hsz : (w.setCell ⟨t, i, none⟩ u).heap.size = w.heap.size := by simp
  have hoo : ∀ b, o b ≠ 0 → asg o L' (20 + i) b = o b := fun b hb => by
    by_cases hm : b ∈ L'
    · exact absurd (hL' b hm).1 hb
    · exact asg_out hm
  have hT : t ∉ L' := fun hm => by have := (hL' t hm).1; have := h.ot; omega
  refine ⟨⟨h.kp.trans k (fun m hm => .inr (by rw [List.mem_singleton] at hm; subst hm; exact (h.old m (by rw [h.ot]; omega)).1)), fun b hb => ?_, by rw [hoo t (by rw [h.ot]; omega)]; exact h.ot, ?_, fun j hj => ?_, fun j hj => ?_, ?_⟩, fun b hb => asg_out hb⟩
  · rw [hsz]
    by_cases hm : b ∈ L'
    · exact (hL' b hm).2
    · rw [asg_out hm] at hb; exact h.old b hb
  · refine ⟨cs.setIfInBounds i u, heap_setCell_same w t i _ _ u h1, by simpa using h2, fun j hj => ?_⟩
    by_cases hji : j = i
    · subst hji; rw [upd_same]; simp [h2, hj]
    · rw [upd_ne _ _ hji, Array.getElem?_setIfInBounds, if_neg (fun e => hji e.symm)]; exact h3 j hj
  · by_cases hji : j = i
    · subst hji
      rw [upd_same, upd_same]
      exact fD.fr hD k (fun b hb hm => by rw [List.mem_singleton] at hb; subst hb; exact hT hm) (fun b hb => asg_in hb)
    · rw [upd_ne _ _ hji, upd_ne _ _ hji]
      refine (h.fc j hj).fr (h.c j hj) k (fun b hb => ?_) (fun b hb => ?_)
      · rw [List.mem_singleton] at hb; subst hb; have := h.ot; show ¬ o b = 20 + j; omega
      · have hb' : o b = 20 + j := hb
        show asg o L' (20 + i) b = 20 + j
        rw [hoo b (by omega)]; exact hb'
  · by_cases hji : j = i
    · subst hji; rw [upd_same]; exact fD
    · rw [upd_ne _ _ hji]; exact h.fc j hj
  · rw [upd_ne _ _ (show (8 : Nat) ≠ i by omega), upd_ne _ _ (show (9 : Nat) ≠ i by omega)]
    exact h.bk.fr k (fun b hb => by rw [List.mem_singleton] at hb; subst hb; have := h.ot; omega) (fun b hb => hoo b (by omega))

/-- what the book's Note leaves -/
structure Noted (w w' : World) (t : Nat) (lv wv l : Value) (vl vw : List Value) (ms k3 : List UInt8) (lv' wv' l3 d d3 : Value) (B : Nat) : Prop where
  kp : Kp (t :: (ob l ++ (ob lv ++ ob wv))) w w'
  ol : Own w' B 22 lv' (vl ++ [l] ++ [l3])
  ow : Own w' B 22 wv' (vw ++ [d] ++ [d3])
  rl : Rd w' l (bv ms)
  rd : Rd w' d (bv ms)
  rl3 : Rd w' l3 (bv (ms ++ k3))
  rd3 : Rd w' d3 (bv (ms ++ k3))
  bl : ∀ b ∈ ob lv', b ∈ ob lv ∨ (w.heap.size ≤ b ∧ b < w'.heap.size)
  bw : ∀ b ∈ ob wv', b ∈ ob wv ∨ (w.heap.size ≤ b ∧ b < w'.heap.size)
  bn : ∀ b ∈ ob lv', b ∉ ob wv'
  bi : ∀ b ∈ ob l3 ++ (ob d ++ ob d3), b ∈ ob l ∨ (w.heap.size ≤ b ∧ b < w'.heap.size)
  bj : ∀ b ∈ ob l ++ (ob l3 ++ (ob d ++ ob d3)), b ∉ ob lv' ∧ b ∉ ob wv'
theorem WX.note {w0 w w' : World} {o : Nat → Nat} {t : Nat} {C : Nat → Pr} {vs : Nat → Value} {n : Nat} (h : WX w0 w o t C vs n) {l : Value} {vl vw : List Value} {ms k3 : List UInt8} {lv' wv' l3 d d3 : Value} {B : Nat} {xs : List (List UInt8)}
    (hl : ∀ b ∈ ob l, o b = 0 ∧ w0.heap.size ≤ b ∧ b < w.heap.size) (hI : Items w (fun b => o b = 30) vl vw xs) (hn : xs.length = n) (hB : B ≤ w.heap.size) (hm : ms.length + k3.length ≤ 4000000)
    (hN : Noted w w' t (vs 8) (vs 9) l vl vw ms k3 lv' wv' l3 d d3 B) (hrow : ∃ cs, w'.heap[t]? = some (.cells cs 92 (0, 0)) ∧ cs.size = 10 ∧ (∀ i, i < 8 → cs[i]? = some (vs i)) ∧ cs[8]? = some lv' ∧ cs[9]? = some wv') :
    ∃ o', WX w0 w' o' t C (upd (upd vs 8 lv') 9 wv') (n + 2) ∧ ∀ b, o b = 0 → b < w.heap.size → b ∉ ob l → o' b = 0 := by
  let o' : Nat → Nat := asg (asg (asg o (ob l ++ (ob l3 ++ (ob d ++ ob d3))) 30) (ob wv') 29) (ob lv') 28
  have hnew : ∀ {b}, o b ≠ 0 → ¬ w.heap.size ≤ b := fun hb hle => hb (h.new hle)
  have hoo : ∀ b, o b ≠ 0 → o' b = o b := fun b hb => by
    show asg (asg (asg o _ 30) (ob wv') 29) (ob lv') 28 b = o b
    by_cases h1 : b ∈ ob lv'
    · rw [asg_in h1]
      rcases hN.bl b h1 with h2 | h2
      · exact (h.bk.ol b h2).symm
      · exact absurd h2.1 (hnew hb)
    rw [asg_out h1]
    by_cases h1 : b ∈ ob wv'
    · rw [asg_in h1]
      rcases hN.bw b h1 with h2 | h2
      · exact (h.bk.ow b h2).symm
      · exact absurd h2.1 (hnew hb)
    rw [asg_out h1]
    by_cases h1 : b ∈ ob l ++ (ob l3 ++ (ob d ++ ob d3))
    · exfalso
      rcases List.mem_append.1 h1 with h2 | h2
      · exact hb (hl b h2).1
      · rcases hN.bi b h2 with h3 | h3
        · exact hb (hl b h3).1
        · exact absurd h3.1 (hnew hb)
    rw [asg_out h1]
  have hz : ∀ b, o b = 0 → b < w.heap.size → b ∉ ob l → o' b = 0 := fun b hb hlt hn => by
    show asg (asg (asg o _ 30) (ob wv') 29) (ob lv') 28 b = 0
    rw [asg_out (fun h1 => by
      rcases hN.bl b h1 with h2 | h2
      · have := h.bk.ol b h2; omega
      · omega), asg_out (fun h1 => by
      rcases hN.bw b h1 with h2 | h2
      · have := h.bk.ow b h2; omega
      · omega), asg_out (fun h1 => by
      rcases List.mem_append.1 h1 with h2 | h2
      · exact hn h2
      · rcases hN.bi b h2 with h3 | h3
        · exact hn h3
        · omega)]
    exact hb
  have hit : ∀ b ∈ ob l ++ (ob l3 ++ (ob d ++ ob d3)), o' b = 30 := fun b hb => by
    show asg (asg (asg o _ 30) (ob wv') 29) (ob lv') 28 b = 30
    rw [asg_out (hN.bj b hb).1, asg_out (hN.bj b hb).2, asg_in hb]
  have hKL : ∀ b ∈ t :: (ob l ++ (ob (vs 8) ++ ob (vs 9))), o b = 1 ∨ (o b = 0 ∧ w0.heap.size ≤ b) ∨ o b = 28 ∨ o b = 29 := fun b hb => by
    rcases List.mem_cons.1 hb with rfl | hb
    · exact .inl h.ot
    rcases List.mem_append.1 hb with hb | hb
    · exact .inr (.inl ⟨(hl b hb).1, (hl b hb).2.1⟩)
    rcases List.mem_append.1 hb with hb | hb
    · exact .inr (.inr (.inl (h.bk.ol b hb)))
    · exact .inr (.inr (.inr (h.bk.ow b hb)))
  refine ⟨o', ⟨h.kp.trans hN.kp (fun m hm => .inr ?_), fun b hb => ?_, by rw [hoo t (by rw [h.ot]; omega)]; exact h.ot, ?_, fun i hi => ?_, h.fc, ?_⟩, hz⟩
  · rcases hKL m hm with h1 | h1 | h1 | h1
    · exact (h.old m (by omega)).1
    · exact h1.2
    · exact (h.old m (by omega)).1
    · exact (h.old m (by omega)).1
  · by_cases hb0 : o b = 0
    · by_cases hlt : b < w.heap.size
      · by_cases hbl : b ∈ ob l
        · exact ⟨(hl b hbl).2.1, Nat.lt_of_lt_of_le hlt hN.kp.size⟩
        · exact absurd (hz b hb0 hlt hbl) hb
      · refine ⟨by have := h.kp.size; omega, ?_⟩
        by_cases h1 : b ∈ ob lv'
        · rcases hN.bl b h1 with h2 | h2
          · have := h.bk.ol b h2; omega
          · exact h2.2
        by_cases h2 : b ∈ ob wv'
        · rcases hN.bw b h2 with h2 | h2
          · have := h.bk.ow b h2; omega
          · exact h2.2
        by_cases h3 : b ∈ ob l ++ (ob l3 ++ (ob d ++ ob d3))
        · rcases List.mem_append.1 h3 with h4 | h4
          · have := (hl b h4).2.2; omega
          · rcases hN.bi b h4 with h5 | h5
            · have := (hl b h5).2.2; omega
            · exact h5.2
        · exfalso
          apply hb
          show asg (asg (asg o _ 30) (ob wv') 29) (ob lv') 28 b = 0
          rw [asg_out h1, asg_out h2, asg_out h3]; exact hb0
    · have := h.old b hb0; exact ⟨this.1, Nat.lt_of_lt_of_le this.2 hN.kp.size⟩
  · obtain ⟨cs, h1, h2, h3, h4, h5⟩ := hrow
    refine ⟨cs, h1, h2, fun i hi => ?_⟩
    by_cases h9 : i = 9
    · subst h9; rw [upd_same]; exact h5
    rw [upd_ne _ _ h9]
    by_cases h8 : i = 8
    · subst h8; rw [upd_same]; exact h4
    rw [upd_ne _ _ h8]
    exact h3 i (by omega)
  · rw [upd_ne _ _ (show i ≠ 9 by omega), upd_ne _ _ (show i ≠ 8 by omega)]
    refine (h.fc i hi).fr (h.c i hi) hN.kp (fun b hb => ?_) (fun b hb => ?_)
    · show ¬ o b = 20 + i
      rcases hKL b hb with h1 | h1 | h1 | h1 <;> omega
    · have hb' : o b = 20 + i := hb
      show o' b = 20 + i
      rw [hoo b (by omega)]; exact hb'
  · rw [upd_same, upd_ne _ _ (show (8 : Nat) ≠ 9 by omega), upd_same]
    have hI' : Items w' (fun b => o' b = 30) vl vw xs := hI.fr hN.kp (fun b hb => by show ¬ o b = 30; rcases hKL b hb with h1 | h1 | h1 | h1 <;> omega) (fun b hb => by have hb' : o b = 30 := hb; show o' b = 30; rw [hoo b (by omega)]; exact hb')
    refine ⟨⟨_, _, xs ++ [ms] ++ [ms ++ k3], B, Nat.le_trans hB hN.kp.size, hN.ol, hN.ow, (hI'.snoc hN.rl hN.rd (fun b hb => hit b (by simp [hb])) (fun b hb => hit b (by simp [hb])) (by omega)).snoc hN.rl3 hN.rd3 (fun b hb => hit b (by simp [hb])) (fun b hb => hit b (by simp [hb])) (by rw [List.length_append]; omega), by simp [hn]⟩, fun b hb => ?_, fun b hb => ?_⟩
    · exact asg_in hb
    · show asg (asg (asg o _ 30) (ob wv') 29) (ob lv') 28 b = 29
      rw [asg_out (fun h1 => hN.bn b h1 hb), asg_in hb]
end Go.Proofs.Ytkceaepbjdfccaa
