/-
What a sha.Hash holds, and what bytes do to it.
-/
import Derived.Test.YtkceaepbjdfccaaDoorSha2
import Derived.Test.YtkceaepbjdfccaaDoorSub
import Derived.Deep.MidRow
import Derived.Laws.CopyOwn
namespace Go.Proofs.YtkceaepbjdfccaaDoor
open Go.RowKit
/-- numbers as bytes -/
def iv (l : List Int) : List Value := l.map (Value.int .u8)
theorem iv_length (l : List Int) : (iv l).length = l.length := by simp [iv]
theorem iv_append (l m : List Int) : iv (l ++ m) = iv l ++ iv m := by simp [iv]
theorem iv_one (l : List Int) : ∀ v ∈ iv l, v.oneCell' = true := by
  intro v hv
  obtain ⟨x, _, rfl⟩ := List.mem_map.1 hv
  rfl
theorem iv_bv (l : List UInt8) : iv (l.map fun x => (x.toNat : Int)) = bv l := by simp [iv, bv, Function.comp_def, bval]
/-- so many bytes laid over others from a place on -/
def ovl (bl : List Int) (o : Nat) (c : List Int) : List Int := bl.take o ++ (c ++ bl.drop (o + c.length))
theorem ovl_len (bl : List Int) (o : Nat) (c : List Int) (h : o + c.length ≤ bl.length) : (ovl bl o c).length = bl.length := by simp [ovl]; omega
theorem set_eq_ovl (bl : List Int) (o : Nat) (x : Int) (h : o < bl.length) : bl.set o x = ovl bl o [x] := by
  rw [List.set_eq_take_append_cons_drop, if_pos h]; rfl
theorem ovl_cons (bl : List Int) (o : Nat) (x : Int) (c : List Int) (h : o + 1 + c.length ≤ bl.length) : ovl (bl.set o x) (o + 1) c = ovl bl o (x :: c) := by
  apply List.ext_getElem?
  intro j
  unfold ovl
  simp only [List.getElem?_append, List.length_take, List.length_set, List.getElem?_take, List.getElem?_set, List.getElem?_drop, List.length_cons]
  rw [show min (o + 1) bl.length = o + 1 by omega, show min o bl.length = o by omega]
  by_cases a : j < o
  · simp only [a, show j < o + 1 by omega, show ¬ o = j by omega, if_true, if_false]
  · by_cases b : j = o
    · subst b
      simp [show j < bl.length by omega]
    · have b' : ¬ j < o + 1 := by omega
      simp only [a, b', if_false]
      obtain ⟨i, rfl⟩ : ∃ i, j = o + 1 + i := ⟨j - (o + 1), by omega⟩
      rw [show o + 1 + i - (o + 1) = i by omega, show o + 1 + i - o = i + 1 by omega, List.getElem?_cons_succ]
      by_cases d : i < c.length
      · simp only [d, show i + 1 < c.length + 1 by omega, if_true]
      · simp only [d, show ¬ i + 1 < c.length + 1 by omega, if_false]
        rw [if_neg (by omega)]
        congr 1
        omega
/-- the state, the bytes that make no whole block yet, how many in all -/
structure Hs where
  st : List Int
  bl : List Int
  n : Nat
def Hs.ok (h : Hs) : Prop := h.st.length = 8 ∧ h.bl.length = 64
/-- one byte more -/
def Hs.put (kk : List Int) (h : Hs) (x : Int) : Hs :=
  ⟨if (h.n + 1) % 64 = 0 then comp kk h.st (h.bl.set (h.n % 64) x) else h.st, h.bl.set (h.n % 64) x, h.n + 1⟩
def Hs.puts (kk : List Int) (h : Hs) (l : List Int) : Hs := l.foldl (Hs.put kk) h
theorem Hs.puts_append (kk : List Int) (h : Hs) (l m : List Int) : h.puts kk (l ++ m) = (h.puts kk l).puts kk m := List.foldl_append
theorem Hs.puts_nil (kk : List Int) (h : Hs) : h.puts kk [] = h := rfl
theorem Hs.put_ok {kk : List Int} {h : Hs} (k : h.ok) (x : Int) : (h.put kk x).ok := by
  obtain ⟨k1, k2⟩ := k
  refine ⟨?_, by simp [Hs.put, k2]⟩
  unfold Hs.put
  dsimp only
  split
  · rw [comp_len]; exact k1
  · exact k1
theorem Hs.puts_ok {kk : List Int} (l : List Int) : ∀ {h : Hs}, h.ok → (h.puts kk l).ok := by
  induction l with
  | nil => intro h k; exact k
  | cons x l ih => intro h k; exact ih (Hs.put_ok k x)
theorem Hs.puts_n {kk : List Int} (l : List Int) : ∀ (h : Hs), (h.puts kk l).n = h.n + l.length := by
  induction l with
  | nil => intro h; rfl
  | cons x l ih => intro h; show ((h.put kk x).puts kk l).n = _; rw [ih]; simp [Hs.put]; omega
/-- a piece that fits into the block -/
theorem Hs.puts_chunk (kk : List Int) (c : List Int) : ∀ (h : Hs), h.bl.length = 64 → h.n % 64 + c.length ≤ 64 → 0 < c.length →
    h.puts kk c = ⟨if (h.n + c.length) % 64 = 0 then comp kk h.st (ovl h.bl (h.n % 64) c) else h.st, ovl h.bl (h.n % 64) c, h.n + c.length⟩ := by
  induction c with
  | nil => intro h _ _ h0; cases h0
  | cons x c ih =>
    intro h hb hl _
    simp only [List.length_cons] at hl ⊢
    show (h.put kk x).puts kk c = _
    cases c with
    | nil =>
      rw [Hs.puts_nil]
      unfold Hs.put
      rw [set_eq_ovl _ _ _ (by omega)]
      rfl
    | cons y c =>
      simp only [List.length_cons] at hl ih ⊢
      have hm : ¬ (h.n + 1) % 64 = 0 := by omega
      have hp : h.put kk x = ⟨h.st, h.bl.set (h.n % 64) x, h.n + 1⟩ := by unfold Hs.put; rw [if_neg hm]
      rw [hp, ih _ (by simpa using hb) (by simp only; omega) (by omega)]
      have e1 : (h.n + 1) % 64 = h.n % 64 + 1 := by omega
      simp only [e1]
      rw [ovl_cons _ _ _ _ (by simp; omega), show h.n + 1 + (c.length + 1) = h.n + (c.length + 1 + 1) by omega]
/-- a Hash's cells -/
def Hs.cl (h : Hs) : List Value := h.st.map (Value.int .u32) ++ (h.bl.map (Value.int .u8) ++ [.int .i64 h.n])
theorem Hs.cl_len {h : Hs} (k : h.ok) : h.cl.length = 73 := by simp [Hs.cl, k.1, k.2]
theorem Hs.cl_one (h : Hs) : ∀ v ∈ h.cl, v.oneCell' = true := by
  intro v hv
  simp only [Hs.cl, List.mem_append, List.mem_map, List.mem_singleton] at hv
  rcases hv with ⟨x, _, rfl⟩ | ⟨x, _, rfl⟩ | rfl <;> rfl
/-- such a Hash lies in block g -/
structure HashAt (w : World) (g : Nat) (h : Hs) : Prop where
  hp : w.heap[g]? = some (.cells h.cl.toArray 129 (0, 0))
  ok : h.ok
theorem HashAt.kp {w w' : World} {L : List Nat} {g : Nat} {h : Hs} (H : HashAt w g h) (k : Kp L w w') (hn : g ∉ L) : HashAt w' g h := ⟨k.heap H.hp hn, H.ok⟩
theorem HashAt.drew {w : World} {g : Nat} {h : Hs} (H : HashAt w g h) : HashAt w.drew g h := ⟨H.hp, H.ok⟩
theorem HashAt.drewN {w : World} {g : Nat} {h : Hs} (H : HashAt w g h) (n : Nat) : HashAt (w.drewN n) g h := ⟨H.hp, H.ok⟩
theorem HashAt.num {w : World} {g : Nat} {h : Hs} (H : HashAt w g h) : w.cell? ⟨g, 72, none⟩ = some (.int .i64 h.n) := by
  rw [cell_of_row w g 72 _ _ _ H.hp, List.getElem?_toArray]
  unfold Hs.cl
  rw [List.getElem?_append_right (by simp [H.ok.1]), List.getElem?_append_right (by simp [H.ok.1, H.ok.2])]
  simp [H.ok.1, H.ok.2]
theorem HashAt.free {w : World} {g : Nat} {h : Hs} (H : HashAt w g h) (j : Nat) : w.frozen? ⟨g, j, none⟩ = false := frozen_of_row w g j _ _ H.hp
theorem HashAt.st {w : World} {g : Nat} {h : Hs} (H : HashAt w g h) : w.rangeAt g 0 (h.st.map (Value.int .u32)) := by
  intro j v hv
  rw [Nat.zero_add, cell_of_row w g j _ _ _ H.hp, List.getElem?_toArray]
  unfold Hs.cl
  rw [List.getElem?_append_left (List.getElem?_eq_some_iff.1 hv).1]
  exact hv
theorem HashAt.bl {w : World} {g : Nat} {h : Hs} (H : HashAt w g h) : w.rangeAt g 8 (h.bl.map (Value.int .u8)) := by
  intro j v hv
  have hj := (List.getElem?_eq_some_iff.1 hv).1
  rw [cell_of_row w g (8 + j) _ _ _ H.hp, List.getElem?_toArray]
  unfold Hs.cl
  rw [List.getElem?_append_right (by simp [H.ok.1]), List.length_map, H.ok.1, show 8 + j - 8 = j by omega, List.getElem?_append_left hj]
  exact hv
theorem kp_setRow (w : World) (g : Nat) (cs : Array Value) : Kp [g] w (w.setRow g cs) := ⟨rfl, rfl, rfl, by simp, fun j _ hn => setRow_other _ _ _ _ (by simpa using hn)⟩
/-- a number stored into it -/
theorem HashAt.setNum {w : World} {g : Nat} {h : Hs} (H : HashAt w g h) (m : Nat) : HashAt (w.setCell ⟨g, 72, none⟩ (.int .i64 m)) g ⟨h.st, h.bl, m⟩ := by
  refine ⟨?_, H.ok⟩
  rw [heap_setCell_same w g 72 _ _ (.int .i64 m) H.hp]
  congr 2
  apply Array.ext'
  simp only [Array.toList_setIfInBounds, Hs.cl]
  rw [List.set_append_right _ _ (by simp [H.ok.1]), List.set_append_right _ _ (by simp [H.ok.1, H.ok.2])]
  simp [H.ok.1, H.ok.2]
/-- bytes laid into its block -/
theorem HashAt.lay {w : World} {g : Nat} {h : Hs} (H : HashAt w g h) (o : Nat) (c : List Int) (hl : o + c.length ≤ 64) :
    HashAt (w.setRow g (h.cl.toArray.toList.take (8 + o) ++ (iv c ++ h.cl.toArray.toList.drop (8 + o + (iv c).length))).toArray) g ⟨h.st, ovl h.bl o c, h.n⟩ := by
  obtain ⟨k1, k2⟩ := H.ok
  refine ⟨?_, ⟨k1, by rw [ovl_len _ _ _ (by omega)]; exact k2⟩⟩
  rw [setRow_heap w g _ _ _ _ H.hp]
  congr 3
  simp only [Hs.cl, iv_length]
  rw [List.take_append, List.drop_append]
  simp only [List.length_map, k1]
  rw [List.take_of_length_le (by simp; omega), List.drop_eq_nil_of_le (by simp; omega), show 8 + o - 8 = o by omega, show 8 + o + c.length - 8 = o + c.length by omega,
    List.take_append_of_le_length (by simp; omega), List.drop_append_of_le_length (by simp; omega)]
  simp [ovl, iv]
theorem kp_setCells (g : Nat) : ∀ (vs : List Value) (o : Nat) (w : World), Kp [g] w (w.setCells g o vs)
  | [], _, w => Kp.refl _ w
  | v :: r, o, w => ((Kp.refl [g] w).setCell (p := ⟨g, o, none⟩) (.inl (by simp)) v).trans (kp_setCells g r (o + 1) _) (fun m hm => .inl hm)
theorem list_set_splice {α : Type} (L : List α) (o : Nat) (v : α) (r : List α) (h : o + 1 + r.length ≤ L.length) :
    (L.set o v).take (o + 1) ++ (r ++ (L.set o v).drop (o + 1 + r.length)) = L.take o ++ (v :: r ++ L.drop (o + (r.length + 1))) := by
  obtain ⟨A, x, B, rfl, rfl⟩ : ∃ A x B, L = A ++ x :: B ∧ o = A.length :=
    ⟨L.take o, L[o], L.drop (o + 1), by rw [List.getElem_cons_drop, List.take_append_drop], by simp; omega⟩
  rw [show A.length + (r.length + 1) = A.length + 1 + r.length by omega]
  simp [List.take_append, List.drop_append, show A.length + 1 - A.length = 1 by omega, show A.length + 1 + r.length - A.length = r.length + 1 by omega, List.take_of_length_le (l := A) (i := A.length + 1) (by omega)]
theorem setCells_row (g : Nat) (t : TypeId) : ∀ (vs : List Value) (o : Nat) (cur : Array Value) (w : World), w.heap[g]? = some (.cells cur t (0, 0)) → o + vs.length ≤ cur.size →
    (w.setCells g o vs).heap[g]? = some (.cells (cur.toList.take o ++ (vs ++ cur.toList.drop (o + vs.length))).toArray t (0, 0))
  | [], o, cur, w, hg, _ => by simpa [World.setCells] using hg
  | v :: r, o, cur, w, hg, hl => by
    simp only [List.length_cons] at hl
    rw [World.setCells, setCells_row g t r (o + 1) (cur.setIfInBounds o v) _ (heap_setCell_same w g o cur t v hg) (by simp; omega)]
    congr 3
    rw [Array.toList_setIfInBounds]
    exact list_set_splice _ _ _ _ (by simp; omega)
/-- another state stored into it -/
theorem HashAt.setSt {w : World} {g : Nat} {h : Hs} (H : HashAt w g h) (st : List Int) (hl : st.length = 8) : HashAt (w.setCells g 0 (u32s st).toList) g ⟨st, h.bl, h.n⟩ := by
  obtain ⟨k1, k2⟩ := H.ok
  refine ⟨?_, ⟨hl, k2⟩⟩
  rw [setCells_row g _ _ 0 _ w H.hp (by simp [Hs.cl, k1, k2, u32s_size, hl])]
  congr 3
  simp only [u32s, List.take_zero, List.nil_append, Nat.zero_add, List.length_map, hl, Hs.cl]
  rw [List.drop_append_of_le_length (by simp [k1]), List.drop_eq_nil_of_le (by simp [k1])]
  simp
end Go.Proofs.YtkceaepbjdfccaaDoor
