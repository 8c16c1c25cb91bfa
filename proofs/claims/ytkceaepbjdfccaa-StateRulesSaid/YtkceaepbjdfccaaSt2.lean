/-
A session's state as cells; what is stored into it.
-/
import Derived.Test.YtkceaepbjdfccaaSt1
import Derived.Deep.MidRow
namespace Go.Proofs.Ytkceaepbjdfccaa
open Go.RowKit
/-- a hello's cells -/
def hel (h o : List Int) (p : Int) : List Value := iv h ++ (iv o ++ [.int .u32 p])
theorem hel_len (h o : List Int) (p : Int) (hh : h.length = 32) (ho : o.length = 32) : (hel h o p).length = 65 := by simp [hel, iv_length, hh, ho]
theorem run_eqFields (d : Nat) (xs ys : Array Value) (W : World) (f0 : Field) (fs : List Field) (h : f0.name ≠ "_") : (Op.eqFields d xs ys (f0 :: fs)).run Try.prog W = ((part f0.type xs f0.offset).run Try.prog W).andThen fun a w1 => ((part f0.type ys f0.offset).run Try.prog w1).andThen fun b w2 => ((Op.equalIn d f0.type a b).run Try.prog w2).andThen fun r w3 => if (!r) = true then .ok false w3 else (Op.eqFields d xs ys fs).run Try.prog w3 := by
  rw [Op.eqFields, if_pos h]
  simp only [Sem.run_bind, Sem.run_ite, Sem.run_pure]
theorem hel1 (h o : List Int) (p : Int) (lh : h.length = 32) : (hel h o p).toArray.extract 0 (0 + 32) = (iv h).toArray := by
  apply Array.ext'
  simp [hel, iv_length, lh]
theorem hel2 (h o : List Int) (p : Int) (lh : h.length = 32) (lo : o.length = 32) : (hel h o p).toArray.extract 32 (32 + 32) = (iv o).toArray := by
  apply Array.ext'
  simp [hel, iv_length, lh, lo]
theorem hel3 (h o : List Int) (p : Int) (lh : h.length = 32) (lo : o.length = 32) : (hel h o p).toArray[64]? = some (.int .u32 p) := by
  rw [List.getElem?_toArray, hel, List.getElem?_append_right (by simp [iv_length, lh]), List.getElem?_append_right (by simp [iv_length, lh, lo])]
  simp [iv_length, lh, lo]
theorem run_part_key (cs : Array Value) (o : Nat) (W : World) : (part 37 cs o).run Try.prog W = .ok (.agg (cs.extract o (o + 32))) W := by
  have hk : (isAgg 37).run Try.prog W = .ok true W := by kernel_rfl
  have hs : (sizeOf 37).run Try.prog W = .ok 32 W := by kernel_rfl
  unfold part
  simp only [Sem.run_bind, hk, Result.andThen_ok, if_true, hs, Sem.run_pure]
theorem run_part_u32 (cs : Array Value) (o : Nat) (v : Value) (W : World) (hv : cs[o]? = some v) : (part 40 cs o).run Try.prog W = .ok v W := by
  have hu : (isAgg 40).run Try.prog W = .ok false W := by kernel_rfl
  unfold part
  simp only [Sem.run_bind, hu, Result.andThen_ok, Bool.false_eq_true, if_false, hv, Sem.run_pure]
theorem run_eq_hello (d : Nat) (h1 o1 h2 o2 : List Int) (p1 p2 : Int) (lh1 : h1.length = 32) (lo1 : o1.length = 32) (lh2 : h2.length = 32) (lo2 : o2.length = 32) (W : World) :
    (Op.equalIn (d + 3) 42 (.agg (hel h1 o1 p1).toArray) (.agg (hel h2 o2 p2).toArray)).run Try.prog W = .ok (decide (h1 = h2) && (decide (o1 = o2) && decide (p1 = p2))) W := by
  have ht : Try.prog.underlying 42 = some (.struct (Try.prog.fieldsOf 42)) := by kernel_rfl
  have hp : Try.prog.stoodInHeld 42 = false := by kernel_rfl
  have hf : (Try.prog.fieldsOf 42).toList.map (fun f => (f.name, f.type, f.offset)) = [("Identity", 37, 0), ("Once", 37, 32), ("Prekey", 40, 64)] := by kernel_rfl
  rw [run_equalIn_struct W (d + 2) 42 _ _ ht hp]
  clear ht hp
  generalize (Try.prog.fieldsOf 42).toList = fs at hf ⊢
  have hl : fs.length = 3 := by have := congrArg List.length hf; simpa using this
  match fs, hl with
  | [f0, f1, f2], _ =>
  simp only [List.map_cons, List.map_nil, List.cons.injEq, Prod.mk.injEq, and_true] at hf
  obtain ⟨⟨m0, t0, o0⟩, ⟨m1, t1, o1'⟩, ⟨m2, t2, o2'⟩⟩ := hf
  rw [run_eqFields _ _ _ _ _ _ (by rw [m0]; simp), t0, o0, run_part_key, Result.andThen_ok, run_part_key, Result.andThen_ok, hel1 h1 o1 p1 lh1, hel1 h2 o2 p2 lh2, run_eq_bytes d 32 37 h1 h2 lh1 lh2 Try.underlying37, Result.andThen_ok]
  by_cases a : h1 = h2
  · rw [if_neg (by simp [a]), run_eqFields _ _ _ _ _ _ (by rw [m1]; simp), t1, o1', run_part_key, Result.andThen_ok, run_part_key, Result.andThen_ok, hel2 h1 o1 p1 lh1 lo1, hel2 h2 o2 p2 lh2 lo2, run_eq_bytes d 32 37 o1 o2 lo1 lo2 Try.underlying37, Result.andThen_ok]
    by_cases b : o1 = o2
    · rw [if_neg (by simp [b]), run_eqFields _ _ _ _ _ _ (by rw [m2]; simp), t2, o2', run_part_u32 _ _ _ _ (hel3 h1 o1 p1 lh1 lo1), Result.andThen_ok, run_part_u32 _ _ _ _ (hel3 h2 o2 p2 lh2 lo2), Result.andThen_ok, run_equalIn_int W (d + 1) 40 .u32 .u32 p1 p2 Try.underlying40, Result.andThen_ok]
      by_cases c : p1 = p2
      · rw [if_neg (by simp [c])]
        simp [Op.eqFields, a, b, c]
      · rw [if_pos (by simpa using c)]
        simp [c]
    · rw [if_pos (by simpa using b)]
      simp [b]
  · rw [if_pos (by simpa using a)]
    simp [a]
theorem kp_setCells (g : Nat) : ∀ (vs : List Value) (o : Nat) (w : World), Kp [g] w (w.setCells g o vs)
  | [], _, w => Kp.refl _ w
  | v :: r, o, w => ((Kp.refl [g] w).setCell (p := ⟨g, o, none⟩) (.inl (by simp)) v).trans (kp_setCells g r (o + 1) _) (fun m hm => .inl hm)
theorem list_set_splice {α : Type} (L : List α) (o : Nat) (v : α) (r : List α) (h : o + 1 + r.length ≤ L.length) :
    (L.set o v).take (o + 1) ++ (r ++ (L.set o v).drop (o + 1 + r.length)) = L.take o ++ (v :: r ++ L.drop (o + (r.length + 1))) := by
  obtain ⟨A, x, B, rfl, rfl⟩ : ∃ A x B, L = A ++ x :: B ∧ o = A.length :=
    ⟨L.take o, L[o], L.drop (o + 1), by rw [List.getElem_cons_drop, List.take_append_drop], by simp; omega⟩
  rw [show A.length + (r.length + 1) = A.length + 1 + r.length by omega]
  simp [List.take_append, List.drop_append, show A.length + 1 - A.length = 1 by omega, show A.length + 1 + r.length - A.length = r.length + 1 by omega, List.take_of_length_le (l := A) (i := A.length + 1) (by omega)]
theorem setCells_row (g : Nat) (t : TypeId) : ∀ (vs : List Value) (o : Nat) (cur : Array Value) (w : World), w.heap[g]? = some (.cells cur t (0, 0)) → o + vs.length ≤ cur.size →
    (w.setCells g o vs).heap[g]? = some (.cells (cur.toList.take o ++ (vs ++ cur.toList.drop (o + vs.length))).toArray t (0, 0))
  | [], o, cur, w, hg, _ => by simpa [World.setCells] using hg
  | v :: r, o, cur, w, hg, hl => by
    simp only [List.length_cons] at hl
    rw [World.setCells, setCells_row g t r (o + 1) (cur.setIfInBounds o v) _ (heap_setCell_same w g o cur t v hg) (by simp; omega)]
    congr 3
    rw [Array.toList_setIfInBounds]
    exact list_set_splice _ _ _ _ (by simp; omega)
/-- a piece of a row stored anew -/
theorem cells_upd {w : World} {g : Nat} {T : TypeId} {A B C : List Value} (hg : w.heap[g]? = some (.cells (A ++ (B ++ C)).toArray T (0, 0))) (B' : List Value) (o : Nat) (ho : A.length = o) (hl : B'.length = B.length) :
    (w.setCells g o B').heap[g]? = some (.cells (A ++ (B' ++ C)).toArray T (0, 0)) := by
  subst ho
  rw [setCells_row g T B' A.length _ w hg (by simp; omega)]
  congr 3
  simp [hl, List.drop_append]
theorem cell_upd {w : World} {g : Nat} {T : TypeId} {A C : List Value} {b : Value} (hg : w.heap[g]? = some (.cells (A ++ (b :: C)).toArray T (0, 0))) (v : Value) (o : Nat) (ho : A.length = o) :
    (w.setCell ⟨g, o, none⟩ v).heap[g]? = some (.cells (A ++ (v :: C)).toArray T (0, 0)) :=
  cells_upd (B := [b]) hg [v] o ho rfl
theorem cells_range {w : World} {g : Nat} {T : TypeId} {A B C : List Value} (hg : w.heap[g]? = some (.cells (A ++ (B ++ C)).toArray T (0, 0))) (o : Nat) (ho : A.length = o) : w.rangeAt g o B := by
  intro j x hx
  have hj := (List.getElem?_eq_some_iff.1 hx).1
  subst ho
  rw [cell_of_row w g _ _ _ _ hg, List.getElem?_toArray, List.getElem?_append_right (by omega), List.getElem?_append_left (by omega), show A.length + j - A.length = j by omega]
  exact hx
theorem cells_there {w : World} {g : Nat} {T : TypeId} {cs : List Value} (hg : w.heap[g]? = some (.cells cs.toArray T (0, 0))) (o n : Nat) (h : o + n ≤ cs.length) : w.there g o n := fun j hj => by
  refine ⟨?_, frozen_of_row w g _ _ _ hg⟩
  rw [cell_of_row w g _ _ _ _ hg, List.getElem?_toArray, List.getElem?_eq_getElem (by omega)]
  rfl
/-- a word, a byte -/
def W32 (x : Int) : Prop := 0 ≤ x ∧ x < 4294967296
def B8 (x : Int) : Prop := 0 ≤ x ∧ x < 256
/-- a session's state -/
structure St where
  pre : List Int
  sk : List Int
  rk : List Int
  own : Int
  turns : Int
  sent : Int
  got : Int
  prev : Int
  ser : Int
  hid : List Int
  ho : List Int
  hp : Int
  bind : List Int
def wv (x : Int) : Value := .int .u32 x
def St.cl (S : St) : List Value :=
  iv S.pre ++ (iv S.sk ++ (iv S.rk ++ (wv S.own :: wv S.turns :: wv S.sent :: wv S.got :: wv S.prev :: wv S.ser :: (iv S.hid ++ (iv S.ho ++ (wv S.hp :: iv S.bind))))))
structure St.ok (S : St) : Prop where
  lp : S.pre.length = 144
  ls : S.sk.length = 32
  lr : S.rk.length = 32
  li : S.hid.length = 32
  lo : S.ho.length = 32
  lb : S.bind.length = 64
  own : W32 S.own
  turns : W32 S.turns
  sent : W32 S.sent
  got : W32 S.got
  prev : W32 S.prev
  ser : W32 S.ser
  b8 : ∀ x ∈ S.bind, B8 x
theorem St.cl_len {S : St} (h : S.ok) : S.cl.length = 343 := by simp [St.cl, iv_length, h.lp, h.ls, h.lr, h.li, h.lo, h.lb]
theorem St.cl_one (S : St) : ∀ v ∈ S.cl, v.oneCell' = true := by
  intro v hv
  simp only [St.cl, List.mem_append, List.mem_cons] at hv
  rcases hv with h | h | h | rfl | rfl | rfl | rfl | rfl | rfl | h | h | rfl | h
  all_goals first | rfl | exact iv_one _ _ h
/-- it lies in block g -/
structure StAt (w : World) (g : Nat) (S : St) : Prop where
  hp : w.heap[g]? = some (.cells S.cl.toArray 45 (0, 0))
  ok : S.ok
theorem StAt.kp {w w' : World} {L : List Nat} {g : Nat} {S : St} (h : StAt w g S) (k : Kp L w w') (hn : g ∉ L) : StAt w' g S := ⟨k.heap h.hp hn, h.ok⟩
theorem StAt.drew {w : World} {g : Nat} {S : St} (h : StAt w g S) : StAt w.drew g S := ⟨h.hp, h.ok⟩
theorem StAt.drewN {w : World} {g : Nat} {S : St} (h : StAt w g S) (n : Nat) : StAt (w.drewN n) g S := ⟨h.hp, h.ok⟩
theorem StAt.free {w : World} {g : Nat} {S : St} (h : StAt w g S) (j : Nat) : w.frozen? ⟨g, j, none⟩ = false := frozen_of_row w g j _ _ h.hp
theorem StAt.cell {w : World} {g : Nat} {S : St} (h : StAt w g S) (i : Nat) (v : Value) (hv : S.cl[i]? = some v) : w.cell? ⟨g, i, none⟩ = some v := by
  rw [cell_of_row w g i _ _ _ h.hp, List.getElem?_toArray]; exact hv
section
variable {w : World} {g : Nat} {S : St}
/-- the words, where they lie -/
theorem St.cut6 (S : St) : S.cl = (iv S.pre ++ (iv S.sk ++ iv S.rk)) ++ (wv S.own :: wv S.turns :: wv S.sent :: wv S.got :: wv S.prev :: wv S.ser :: (iv S.hid ++ (iv S.ho ++ (wv S.hp :: iv S.bind)))) := by simp [St.cl]
theorem St.cut6_len (h : S.ok) : (iv S.pre ++ (iv S.sk ++ iv S.rk)).length = 208 := by simp [iv_length, h.lp, h.ls, h.lr]
theorem St.word (h : S.ok) (j : Nat) (v : Value) (hv : [wv S.own, wv S.turns, wv S.sent, wv S.got, wv S.prev, wv S.ser][j]? = some v) : S.cl[208 + j]? = some v := by
  have hj := (List.getElem?_eq_some_iff.1 hv).1
  rw [St.cut6, List.getElem?_append_right (by rw [St.cut6_len h]; omega), St.cut6_len h, show 208 + j - 208 = j by omega]
  simp only [List.length_cons, List.length_nil] at hj
  have : j = 0 ∨ j = 1 ∨ j = 2 ∨ j = 3 ∨ j = 4 ∨ j = 5 := by omega
  rcases this with rfl | rfl | rfl | rfl | rfl | rfl <;> exact hv
theorem StAt.own (h : StAt w g S) : w.cell? ⟨g, 208, none⟩ = some (.int .u32 S.own) := h.cell 208 _ (St.word h.ok 0 _ rfl)
theorem StAt.turns (h : StAt w g S) : w.cell? ⟨g, 209, none⟩ = some (.int .u32 S.turns) := h.cell 209 _ (St.word h.ok 1 _ rfl)
theorem StAt.sent (h : StAt w g S) : w.cell? ⟨g, 210, none⟩ = some (.int .u32 S.sent) := h.cell 210 _ (St.word h.ok 2 _ rfl)
theorem StAt.got (h : StAt w g S) : w.cell? ⟨g, 211, none⟩ = some (.int .u32 S.got) := h.cell 211 _ (St.word h.ok 3 _ rfl)
theorem StAt.prev (h : StAt w g S) : w.cell? ⟨g, 212, none⟩ = some (.int .u32 S.prev) := h.cell 212 _ (St.word h.ok 4 _ rfl)
theorem StAt.ser (h : StAt w g S) : w.cell? ⟨g, 213, none⟩ = some (.int .u32 S.ser) := h.cell 213 _ (St.word h.ok 5 _ rfl)
theorem StAt.setOwn (h : StAt w g S) (x : Int) (hx : W32 x) : StAt (w.setCell ⟨g, 208, none⟩ (.int .u32 x)) g { S with own := x } := by
  have h1 := h.hp
  rw [St.cut6] at h1
  exact ⟨by rw [St.cut6]; exact cell_upd h1 (wv x) 208 (St.cut6_len h.ok), { h.ok with own := hx }⟩
theorem StAt.setTurns (h : StAt w g S) (x : Int) (hx : W32 x) : StAt (w.setCell ⟨g, 209, none⟩ (.int .u32 x)) g { S with turns := x } := by
  have h1 := h.hp
  rw [St.cut6, List.append_cons] at h1
  exact ⟨by rw [St.cut6, List.append_cons]; exact cell_upd h1 (wv x) 209 (by rw [List.length_append, St.cut6_len h.ok]; rfl), { h.ok with turns := hx }⟩
theorem StAt.setSent (h : StAt w g S) (x : Int) (hx : W32 x) : StAt (w.setCell ⟨g, 210, none⟩ (.int .u32 x)) g { S with sent := x } := by
  have h1 := h.hp
  rw [St.cut6, List.append_cons, List.append_cons] at h1
  exact ⟨by rw [St.cut6, List.append_cons, List.append_cons]; exact cell_upd h1 (wv x) 210 (by rw [List.length_append, List.length_append, St.cut6_len h.ok]; rfl), { h.ok with sent := hx }⟩
theorem StAt.setGot (h : StAt w g S) (x : Int) (hx : W32 x) : StAt (w.setCell ⟨g, 211, none⟩ (.int .u32 x)) g { S with got := x } := by
  have h1 := h.hp
  rw [St.cut6, List.append_cons, List.append_cons, List.append_cons] at h1
  exact ⟨by rw [St.cut6, List.append_cons, List.append_cons, List.append_cons]; exact cell_upd h1 (wv x) 211 (by rw [List.length_append, List.length_append, List.length_append, St.cut6_len h.ok]; rfl), { h.ok with got := hx }⟩
theorem StAt.setPrev (h : StAt w g S) (x : Int) (hx : W32 x) : StAt (w.setCell ⟨g, 212, none⟩ (.int .u32 x)) g { S with prev := x } := by
  have h1 := h.hp
  rw [St.cut6, List.append_cons, List.append_cons, List.append_cons, List.append_cons] at h1
  exact ⟨by rw [St.cut6, List.append_cons, List.append_cons, List.append_cons, List.append_cons]; exact cell_upd h1 (wv x) 212 (by rw [List.length_append, List.length_append, List.length_append, List.length_append, St.cut6_len h.ok]; rfl), { h.ok with prev := hx }⟩
theorem StAt.setSer (h : StAt w g S) (x : Int) (hx : W32 x) : StAt (w.setCell ⟨g, 213, none⟩ (.int .u32 x)) g { S with ser := x } := by
  have h1 := h.hp
  rw [St.cut6, List.append_cons, List.append_cons, List.append_cons, List.append_cons, List.append_cons] at h1
  exact ⟨by rw [St.cut6, List.append_cons, List.append_cons, List.append_cons, List.append_cons, List.append_cons]; exact cell_upd h1 (wv x) 213 (by rw [List.length_append, List.length_append, List.length_append, List.length_append, List.length_append, St.cut6_len h.ok]; rfl), { h.ok with ser := hx }⟩
/-- the two keys -/
theorem St.cutS (S : St) : S.cl = iv S.pre ++ (iv S.sk ++ (iv S.rk ++ (wv S.own :: wv S.turns :: wv S.sent :: wv S.got :: wv S.prev :: wv S.ser :: (iv S.hid ++ (iv S.ho ++ (wv S.hp :: iv S.bind)))))) := rfl
theorem St.cutR (S : St) : S.cl = (iv S.pre ++ iv S.sk) ++ (iv S.rk ++ (wv S.own :: wv S.turns :: wv S.sent :: wv S.got :: wv S.prev :: wv S.ser :: (iv S.hid ++ (iv S.ho ++ (wv S.hp :: iv S.bind))))) := by simp [St.cl]
theorem StAt.sk (h : StAt w g S) : w.rangeAt g 144 (iv S.sk) := by
  have h1 := h.hp
  rw [St.cutS] at h1
  exact cells_range h1 144 (by rw [iv_length]; exact h.ok.lp)
theorem StAt.rk (h : StAt w g S) : w.rangeAt g 176 (iv S.rk) := by
  have h1 := h.hp
  rw [St.cutR] at h1
  exact cells_range h1 176 (by rw [List.length_append, iv_length, iv_length, h.ok.lp, h.ok.ls])
theorem StAt.setSk (h : StAt w g S) (l : List Int) (hl : l.length = 32) : StAt (w.setCells g 144 (iv l)) g { S with sk := l } := by
  have h1 := h.hp
  rw [St.cutS] at h1
  exact ⟨cells_upd h1 (iv l) 144 (by rw [iv_length]; exact h.ok.lp) (by rw [iv_length, iv_length, hl, h.ok.ls]), { h.ok with ls := hl }⟩
theorem StAt.setRk (h : StAt w g S) (l : List Int) (hl : l.length = 32) : StAt (w.setCells g 176 (iv l)) g { S with rk := l } := by
  have h1 := h.hp
  rw [St.cutR] at h1
  exact ⟨by rw [St.cutR]; exact cells_upd h1 (iv l) 176 (by rw [List.length_append, iv_length, iv_length, h.ok.lp, h.ok.ls]) (by rw [iv_length, iv_length, hl, h.ok.lr]), { h.ok with lr := hl }⟩
/-- the hello and what it is bound to -/
theorem St.cutH (S : St) : S.cl = (iv S.pre ++ (iv S.sk ++ (iv S.rk ++ [wv S.own, wv S.turns, wv S.sent, wv S.got, wv S.prev, wv S.ser]))) ++ (hel S.hid S.ho S.hp ++ iv S.bind) := by simp [St.cl, hel, wv]
theorem St.cutH_len (h : S.ok) : (iv S.pre ++ (iv S.sk ++ (iv S.rk ++ [wv S.own, wv S.turns, wv S.sent, wv S.got, wv S.prev, wv S.ser]))).length = 214 := by simp [iv_length, h.lp, h.ls, h.lr]
theorem St.cutI (S : St) : S.cl = (iv S.pre ++ (iv S.sk ++ (iv S.rk ++ [wv S.own, wv S.turns, wv S.sent, wv S.got, wv S.prev, wv S.ser]))) ++ (iv S.hid ++ (iv S.ho ++ (wv S.hp :: iv S.bind))) := by simp [St.cl, wv]
theorem St.cutB (S : St) : S.cl = (iv S.pre ++ (iv S.sk ++ (iv S.rk ++ ([wv S.own, wv S.turns, wv S.sent, wv S.got, wv S.prev, wv S.ser] ++ hel S.hid S.ho S.hp)))) ++ (iv S.bind ++ []) := by simp [St.cl, hel, wv]
theorem St.cutB_len (h : S.ok) : (iv S.pre ++ (iv S.sk ++ (iv S.rk ++ ([wv S.own, wv S.turns, wv S.sent, wv S.got, wv S.prev, wv S.ser] ++ hel S.hid S.ho S.hp)))).length = 279 := by
  simp [iv_length, h.lp, h.ls, h.lr, hel_len _ _ _ h.li h.lo]
theorem StAt.hello (h : StAt w g S) : w.rangeAt g 214 (hel S.hid S.ho S.hp) := by
  have h1 := h.hp
  rw [St.cutH] at h1
  exact cells_range h1 214 (St.cutH_len h.ok)
theorem StAt.bind (h : StAt w g S) : w.rangeAt g 279 (iv S.bind) := by
  have h1 := h.hp
  rw [St.cutB] at h1
  exact cells_range h1 279 (St.cutB_len h.ok)
theorem StAt.first (h : StAt w g S) : w.rangeAt g 279 (iv (S.bind.take 32)) := fun j v hv => h.bind j v (by
  unfold iv at hv ⊢
  rw [List.map_take, List.getElem?_take] at hv
  split at hv
  · exact hv
  · cases hv)
theorem StAt.setHello (h : StAt w g S) (i o : List Int) (p : Int) (hi : i.length = 32) (ho : o.length = 32) : StAt (w.setCells g 214 (hel i o p)) g { S with hid := i, ho := o, hp := p } := by
  have h1 := h.hp
  rw [St.cutH] at h1
  exact ⟨by rw [St.cutH]; exact cells_upd h1 (hel i o p) 214 (St.cutH_len h.ok) (by rw [hel_len _ _ _ hi ho, hel_len _ _ _ h.ok.li h.ok.lo]), { h.ok with li := hi, lo := ho }⟩
theorem StAt.setHid (h : StAt w g S) (i : List Int) (hi : i.length = 32) : StAt (w.setCells g 214 (iv i)) g { S with hid := i } := by
  have h1 := h.hp
  rw [St.cutI] at h1
  exact ⟨by rw [St.cutI]; exact cells_upd h1 (iv i) 214 (St.cutH_len h.ok) (by rw [iv_length, iv_length, hi, h.ok.li]), { h.ok with li := hi }⟩
theorem iv_set (l : List Int) (k : Nat) (x : Int) : (iv l).set k (.int .u8 x) = iv (l.set k x) := by simp [iv, List.map_set]
/-- one cell of a piece stored anew -/
theorem cell_at {T : TypeId} {A C : List Value} {l : List Int} (hg : w.heap[g]? = some (.cells (A ++ (iv l ++ C)).toArray T (0, 0))) (k : Nat) (hk : k < l.length) (x : Int) (o : Nat) (ho : A.length = o) :
    (w.setCell ⟨g, o + k, none⟩ (.int .u8 x)).heap[g]? = some (.cells (A ++ (iv (l.set k x) ++ C)).toArray T (0, 0)) := by
  subst ho
  rw [heap_setCell_same w g _ _ _ (.int .u8 x) hg]
  congr 2
  apply Array.ext'
  rw [Array.toList_setIfInBounds]
  show (A ++ (iv l ++ C)).set (A.length + k) (.int .u8 x) = _
  rw [List.set_append_right _ _ (by omega), show A.length + k - A.length = k by omega, List.set_append_left _ _ (by rw [iv_length]; exact hk), iv_set]
theorem StAt.setBind (h : StAt w g S) (k : Nat) (hk : k < 64) (x : Int) (hx : B8 x) : StAt (w.setCell ⟨g, 279 + k, none⟩ (.int .u8 x)) g { S with bind := S.bind.set k x } := by
  have h1 := h.hp
  rw [St.cutB] at h1
  refine ⟨by rw [St.cutB]; exact cell_at h1 k (by rw [h.ok.lb]; exact hk) x 279 (St.cutB_len h.ok), { h.ok with lb := by rw [List.length_set]; exact h.ok.lb, b8 := fun y hy => ?_ }⟩
  rcases List.mem_or_eq_of_mem_set hy with h2 | h2
  · exact h.ok.b8 y h2
  · exact h2 ▸ hx
theorem StAt.setSkAt (h : StAt w g S) (k : Nat) (hk : k < 32) (x : Int) : StAt (w.setCell ⟨g, 144 + k, none⟩ (.int .u8 x)) g { S with sk := S.sk.set k x } := by
  have h1 := h.hp
  rw [St.cutS] at h1
  exact ⟨cell_at h1 k (by rw [h.ok.ls]; exact hk) x 144 (by rw [iv_length]; exact h.ok.lp), { h.ok with ls := by rw [List.length_set]; exact h.ok.ls }⟩
theorem StAt.setRkAt (h : StAt w g S) (k : Nat) (hk : k < 32) (x : Int) : StAt (w.setCell ⟨g, 176 + k, none⟩ (.int .u8 x)) g { S with rk := S.rk.set k x } := by
  have h1 := h.hp
  rw [St.cutR] at h1
  exact ⟨by rw [St.cutR]; exact cell_at h1 k (by rw [h.ok.lr]; exact hk) x 176 (by rw [List.length_append, iv_length, iv_length, h.ok.lp, h.ok.ls]), { h.ok with lr := by rw [List.length_set]; exact h.ok.lr }⟩
theorem StAt.setHidAt (h : StAt w g S) (k : Nat) (hk : k < 32) (x : Int) : StAt (w.setCell ⟨g, 214 + k, none⟩ (.int .u8 x)) g { S with hid := S.hid.set k x } := by
  have h1 := h.hp
  rw [St.cutI] at h1
  exact ⟨by rw [St.cutI]; exact cell_at h1 k (by rw [h.ok.li]; exact hk) x 214 (St.cutH_len h.ok), { h.ok with li := by rw [List.length_set]; exact h.ok.li }⟩
theorem byte_at (o k : Nat) (l : List Int) (hr : w.rangeAt g o (iv l)) (hk : k < l.length) : w.cell? ⟨g, o + k, none⟩ = some (.int .u8 (l.getD k 0)) := hr k _ (iv_get l k hk)
end
end Go.Proofs.Ytkceaepbjdfccaa
