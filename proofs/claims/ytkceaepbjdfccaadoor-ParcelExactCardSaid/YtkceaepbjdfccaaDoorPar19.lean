/-
What a law holds beside a tray: slices that the tray's blocks do not meet; the parts of one text, put in one by one.
-/
import Derived.Test.YtkceaepbjdfccaaDoorPar18
namespace Go.Proofs.YtkceaepbjdfccaaDoor
open Go.RowKit
/-- not among the blocks F, and made -/
def Sf (W : World) (F : Nat → Prop) (v : Value) : Prop := ∀ b, v.ownBlock = some b → ¬ F b ∧ b < W.heap.size
theorem Sf.fn {W W' : World} {F : Nat → Prop} {v : Value} (h : Sf W F v) (k : W.heap.size ≤ W'.heap.size) : Sf W' (Fn F W W') v := by
  intro b hb
  obtain ⟨h1, h2⟩ := h b hb
  refine ⟨?_, by omega⟩
  rintro (hh | hh)
  · exact h1 hh
  · omega
theorem Sf.kp {W W' : World} {F : Nat → Prop} {v : Value} (h : Sf W F v) (k : W.heap.size ≤ W'.heap.size) : Sf W' F v := fun b hb => ⟨(h b hb).1, Nat.lt_of_lt_of_le (h b hb).2 k⟩
theorem Sf.not {W : World} {F : Nat → Prop} {v : Value} {L : List Nat} (h : Sf W F v) (hL : ∀ b ∈ L, F b) : ∀ b, v.ownBlock = some b → b ∉ L := fun b hb hm => (h b hb).1 (hL b hm)
/-- bytes that are read, away from F -/
structure Rs (W : World) (F : Nat → Prop) (v : Value) (l : List UInt8) : Prop where
  r : Rd W v (bv l)
  s : Sf W F v
theorem Rs.fn {W W' : World} {L : List Nat} {F : Nat → Prop} {v : Value} {l : List UInt8} (h : Rs W F v l) (k : Kp L W W') (hL : ∀ b ∈ L, F b) : Rs W' (Fn F W W') v l := ⟨h.r.kp k (h.s.not hL), h.s.fn k.size⟩
theorem Rs.kp {W W' : World} {L : List Nat} {F : Nat → Prop} {v : Value} {l : List UInt8} (h : Rs W F v l) (k : Kp L W W') (hL : ∀ b ∈ L, F b) : Rs W' F v l := ⟨h.r.kp k (h.s.not hL), h.s.kp k.size⟩
theorem Rs.kp0 {W W' : World} {F : Nat → Prop} {v : Value} {l : List UInt8} (h : Rs W F v l) (k : Kp [] W W') : Rs W' F v l := h.kp k (by simp)
/-- a slice of slices that are read, away from F -/
structure Pq (W : World) (F : Nat → Prop) (g : Nat) (ls : List (List UInt8)) : Prop where
  ex : ∃ vals : List Value, vals.length = ls.length ∧ ¬ F g ∧ g < W.heap.size ∧ (∀ (i : Nat) (x : Value), vals[i]? = some x → W.cell? ⟨g, i, none⟩ = some x) ∧ ∀ (i : Nat) (x : Value) (l : List UInt8), vals[i]? = some x → ls[i]? = some l → Rs W F x l
theorem Pq.fn {W W' : World} {L : List Nat} {F : Nat → Prop} {g : Nat} {ls : List (List UInt8)} (h : Pq W F g ls) (k : Kp L W W') (hL : ∀ b ∈ L, F b) : Pq W' (Fn F W W') g ls := by
  obtain ⟨vals, h1, h2, h3, h4, h5⟩ := h.ex
  have hs := k.size
  refine ⟨vals, h1, ?_, by omega, fun i x hx => k.cell_some (h4 i x hx) (fun hm => h2 (hL g hm)), fun i x l hx hl => (h5 i x l hx hl).fn k hL⟩
  rintro (hh | hh)
  · exact h2 hh
  · omega
theorem Pq.kp {W W' : World} {L : List Nat} {F : Nat → Prop} {g : Nat} {ls : List (List UInt8)} (h : Pq W F g ls) (k : Kp L W W') (hL : ∀ b ∈ L, F b) : Pq W' F g ls := by
  obtain ⟨vals, h1, h2, h3, h4, h5⟩ := h.ex
  exact ⟨vals, h1, h2, Nat.lt_of_lt_of_le h3 k.size, fun i x hx => k.cell_some (h4 i x hx) (fun hm => h2 (hL g hm)), fun i x l hx hl => (h5 i x l hx hl).kp k hL⟩
theorem Pq.kp0 {W W' : World} {F : Nat → Prop} {g : Nat} {ls : List (List UInt8)} (h : Pq W F g ls) (k : Kp [] W W') : Pq W' F g ls := h.kp k (by simp)
theorem Pq.at {W : World} {F : Nat → Prop} {g : Nat} {ls : List (List UInt8)} (h : Pq W F g ls) {i : Nat} {l : List UInt8} (hi : ls[i]? = some l) : ∃ a c, W.cell? ⟨g, i, none⟩ = some (.slice a l.length c) ∧ Rs W F (.slice a l.length c) l := by
  obtain ⟨vals, h1, _, _, h4, h5⟩ := h.ex
  have hlt := (List.getElem?_eq_some_iff.1 hi).1
  have hv : vals[i]? = some vals[i] := List.getElem?_eq_getElem (by omega)
  have hr := h5 i vals[i] l hv hi
  obtain ⟨a, c, he⟩ := hr.r.form
  rw [bv_length] at he
  exact ⟨a, c, by rw [h4 i _ hv, he], by rw [← he]; exact hr⟩
/-- out of what Split gives -/
theorem Pts.pq {W W' : World} {B : Nat} {v : Value} {ls : List (List UInt8)} {F : Nat → Prop} (h : Pts W B v ls) (k : Kp [] W W') (hne : ls ≠ []) (hF : ∀ b, F b → W.heap.size ≤ b) : ∃ g c, v = .slice (some ⟨g, 0, none⟩) ls.length c ∧ Pq W' F g ls := by
  obtain ⟨vals, h1, h2, h3⟩ := h
  have hs := k.size
  rcases h1.2 with ⟨rfl, h0⟩ | ⟨g, cap, cur, hv, _⟩
  · exact absurd (List.eq_nil_of_length_eq_zero (by omega)) hne
  · have hlt := (h1.lt (by rw [hv]; rfl : v.ownBlock = some g)).2
    refine ⟨g, cap, by rw [hv, h2], vals, h2, fun hh => absurd (hF g hh) (Nat.not_le.2 hlt), by omega, fun i x hx => ?_, fun i x l hx hl => ?_⟩
    · have h4 := (h1.kp0 k).rd
      obtain ⟨a, c, he, _, _, h5⟩ := h4
      rw [hv] at he
      simp only [Value.slice.injEq] at he
      obtain ⟨rfl, _, _⟩ := he
      have := h5 _ rfl i x hx
      rwa [Addr.add_lit, Nat.zero_add] at this
    · have ho := (h3 i x l hx hl).1
      exact ⟨(ho.kp0 k).rd, fun b hb => ⟨fun hh => absurd (hF b hh) (Nat.not_le.2 (ho.lt hb).2), Nat.lt_of_lt_of_le (ho.lt hb).2 hs⟩⟩
theorem Cut.rs {W w : World} {F : Nat → Prop} {v : Value} {l : List UInt8} (h : Cut W w.heap.size v l) (hF : ∀ b, F b → b < w.heap.size) : Rs W F v l := by
  refine ⟨h.rd, fun b hb => ?_⟩
  rcases h with ⟨rfl, _⟩ | ⟨g, cur, rfl, hg, hh, _⟩
  · cases hb
  · cases hb
    exact ⟨fun hf => absurd (hF _ hf) (Nat.not_lt.2 hg), (Array.getElem?_eq_some_iff.1 hh).1⟩
theorem Own.rs {W : World} {B : Nat} {F : Nat → Prop} {v : Value} {l : List UInt8} (h : Own W B 5 v (bv l)) (hF : ∀ b, F b → b < B) : Rs W F v l :=
  ⟨h.rd, fun _ hb => ⟨fun hf => absurd (hF _ hf) (Nat.not_lt.2 (h.lt hb).1), (h.lt hb).2⟩⟩
/-- integers as cells -/
def zv (l : List Int) : List Value := l.map (Value.int .i64)
theorem zv_len (l : List Int) : (zv l).length = l.length := by simp [zv]
/-! the parts of one text, put in one by one -/
def psOf (l : List UInt8) (n : Nat) (left : List Nat) : List (Option (List UInt8)) := (List.range n).map fun i => if i ∈ left then none else some (contP l i)
theorem psOf_len (l : List UInt8) (n : Nat) (left : List Nat) : (psOf l n left).length = n := by simp [psOf]
theorem psOf_get (l : List UInt8) {n i : Nat} (left : List Nat) (h : i < n) : (psOf l n left)[i]? = some (if i ∈ left then none else some (contP l i)) := by
  unfold psOf
  rw [List.getElem?_map, List.getElem?_range h]
  rfl
theorem psOf_all (l : List UInt8) (n : Nat) : psOf l n (List.range n) = List.replicate n none := by
  apply List.ext_getElem?
  intro i
  rw [List.getElem?_replicate]
  by_cases h : i < n
  · rw [psOf_get l _ h, if_pos (List.mem_range.2 h), if_pos h]
  · rw [if_neg h, List.getElem?_eq_none (by rw [psOf_len]; omega)]
theorem missL_psOf (l : List UInt8) {n : Nat} {left : List Nat} (nd : left.Nodup) (hs : ∀ i ∈ left, i < n) : (missL (psOf l n left)).length = left.length := by
  have h1 : missL (psOf l n left) = (List.range n).filter fun i => decide (i ∈ left) := by
    unfold missL missT
    rw [psOf_len]
    apply List.filter_congr
    intro i hi
    rw [List.getD_eq_getElem?_getD, psOf_get l left (List.mem_range.1 hi)]
    by_cases h : i ∈ left <;> simp [h]
  rw [h1]
  apply List.Perm.length_eq
  refine (List.perm_ext_iff_of_nodup (List.nodup_range.filter _) nd).2 fun i => ?_
  rw [List.mem_filter, List.mem_range]
  constructor
  · rintro ⟨_, h⟩; exact of_decide_eq_true h
  · intro h; exact ⟨hs i h, decide_eq_true h⟩
theorem mem_cut {left : List Nat} (nd : left.Nodup) {k x : Nat} (hk : left[k]? = some x) (i : Nat) : i ∈ left.eraseIdx k ↔ i ∈ left ∧ i ≠ x := by
  rw [List.mem_eraseIdx_iff_getElem?]
  constructor
  · rintro ⟨j, hj, h⟩
    refine ⟨List.mem_of_getElem? h, fun e => hj ?_⟩
    subst e
    exact (List.getElem?_inj (List.getElem?_eq_some_iff.1 h).1 nd).1 (by rw [h, hk])
  · rintro ⟨h, hne⟩
    obtain ⟨j, hj⟩ := List.getElem?_of_mem h
    refine ⟨j, fun e => hne ?_, hj⟩
    rw [e, hk] at hj
    exact (Option.some.inj hj).symm
theorem psOf_set (l : List UInt8) {n : Nat} {left : List Nat} (nd : left.Nodup) {k x : Nat} (hk : left[k]? = some x) (hx : x < n) : (psOf l n left).set x (some (contP l x)) = psOf l n (left.eraseIdx k) := by
  apply List.ext_getElem?
  intro i
  by_cases h : i < n
  · rw [psOf_get l _ h]
    by_cases e : i = x
    · subst e
      rw [List.getElem?_set_self (by rw [psOf_len]; exact h), if_neg (fun hh => ((mem_cut nd hk i).1 hh).2 rfl)]
    · rw [List.getElem?_set_ne (fun hh => e hh.symm), psOf_get l _ h]
      by_cases hm : i ∈ left
      · rw [if_pos hm, if_pos ((mem_cut nd hk i).2 ⟨hm, e⟩)]
      · rw [if_neg hm, if_neg (fun hh => hm ((mem_cut nd hk i).1 hh).1)]
  · rw [List.getElem?_eq_none (by rw [List.length_set, psOf_len]; omega), List.getElem?_eq_none (by rw [psOf_len]; omega)]
theorem conts_take (l : List UInt8) : ∀ n, ((List.range n).map (contP l)).flatten = l.take (497 * n)
  | 0 => by simp
  | n + 1 => by
    rw [List.range_succ, List.map_append, List.flatten_append, conts_take l n]
    simp only [List.map_cons, List.map_nil, List.flatten_cons, List.flatten_nil, List.append_nil]
    unfold contP
    rw [show 497 * (n + 1) = 497 * n + 497 by omega, List.take_add]
theorem textL_all (l : List UInt8) : textL (psOf l (cntP l.length) []) = l := by
  have h1 : textL (psOf l (cntP l.length) []) = ((List.range (cntP l.length)).map (contP l)).flatten := by
    unfold textL psOf
    rw [List.map_map]
    congr 1
  rw [h1, conts_take, List.take_of_length_le]
  unfold cntP
  omega
/-- the tray while the parts come -/
def Tof (mk : List UInt8 → List UInt8) (id : Int) (l : List UInt8) (p : List UInt8) (left : List Nat) : List Ent :=
  if left = List.range (cntP l.length) then [] else [⟨p, id, mk l, psOf l (cntP l.length) left⟩]
section
variable {mk : List UInt8 → List UInt8} (hm : ∀ l, (mk l).length = 8) {id : Int} (h0 : 0 ≤ id) (h1 : id < 4294967296) {l : List UInt8} (hl : l.length ≤ 31808) {p : List UInt8} (hp : peerErr p.length = 0) {left : List Nat} (nd : left.Nodup) (hs : ∀ i ∈ left, i < cntP l.length) {k x : Nat} (hk : left[k]? = some x)
include hk in
theorem cut_ne : left.eraseIdx k ≠ List.range (cntP l.length) ∨ ¬ left.length ≤ cntP l.length := by
  by_cases h : left.length ≤ cntP l.length
  · refine .inl fun e => ?_
    have hlt := (List.getElem?_eq_some_iff.1 hk).1
    have := congrArg List.length e
    rw [List.length_eraseIdx, if_pos hlt, List.length_range] at this
    omega
  · exact .inr h
theorem nodup_le {left : List Nat} {n : Nat} (nd : left.Nodup) (hs : ∀ i ∈ left, i < n) : left.length ≤ n := by
  have := missL_psOf [] nd hs
  have h2 := missT_len (psOf [] n left) n
  unfold missL at this
  rw [psOf_len] at this
  omega
include hm h0 h1 hl hp nd hs hk in
theorem add_step : addE mk 1 (Tof mk id l p left) p (partM mk id l x) = ((id, decide ((left.eraseIdx k).length = 0), 0), Tof mk id l p (left.eraseIdx k)) := by
  have hx : x < cntP l.length := hs x (List.mem_of_getElem? hk)
  have hr := readL_part hm h0 h1 hl hx
  have hle := nodup_le nd hs
  have hlt := (List.getElem?_eq_some_iff.1 hk).1
  have hel : (left.eraseIdx k).length = left.length - 1 := by rw [List.length_eraseIdx, if_pos hlt]
  have hmiss := missL_psOf l nd hs
  have hset := psOf_set l nd hk hx
  have hne : left.eraseIdx k ≠ List.range (cntP l.length) := by
    rcases cut_ne (l := l) hk with h | h
    · exact h
    · exact absurd hle h
  have hT' : Tof mk id l p (left.eraseIdx k) = [⟨p, id, mk l, psOf l (cntP l.length) (left.eraseIdx k)⟩] := by unfold Tof; rw [if_neg hne]
  have hdec : decide (left.length = 1) = decide ((left.eraseIdx k).length = 0) := by
    rw [hel]
    by_cases e : left.length = 1
    · simp [e]
    · rw [decide_eq_false e, decide_eq_false (by omega)]
  have hsum : ¬ (left.length = 1 ∧ mk (textL (psOf l (cntP l.length) (left.eraseIdx k))) ≠ mk l) := by
    rintro ⟨e1, e2⟩
    have : left.eraseIdx k = [] := List.eq_nil_of_length_eq_zero (by omega)
    rw [this, textL_all l] at e2
    exact e2 rfl
  rw [hT']
  unfold addE
  rw [if_neg (by simp [hp]), hr]
  simp only [Int.toNat_natCast]
  by_cases hall : left = List.range (cntP l.length)
  · have hT : Tof mk id l p left = [] := by unfold Tof; rw [if_pos hall]
    have hps : List.replicate (cntP l.length) (none : Option (List UInt8)) = psOf l (cntP l.length) left := by rw [hall, psOf_all]
    rw [hT]
    simp only [findE, List.find?_nil, List.length_nil]
    have hm1 : (missL (List.replicate (cntP l.length) (none : Option (List UInt8)))).length = left.length := by rw [hps]; exact hmiss
    have hs1 : (List.replicate (cntP l.length) (none : Option (List UInt8))).set x (some (contP l x)) = psOf l (cntP l.length) (left.eraseIdx k) := by rw [hps]; exact hset
    clear hps
    rw [if_neg (by omega)]
    simp only [hm1, hs1]
    rw [if_neg hsum, hdec]
    rfl
  · have hT : Tof mk id l p left = [⟨p, id, mk l, psOf l (cntP l.length) left⟩] := by unfold Tof; rw [if_neg hall]
    rw [hT]
    have hf : findE [(⟨p, id, mk l, psOf l (cntP l.length) left⟩ : Ent)] (p, id) = some ⟨p, id, mk l, psOf l (cntP l.length) left⟩ := by simp [findE, Ent.ky]
    rw [hf]
    simp only
    rw [if_neg (by rintro (h | h); exact h (by rw [psOf_len]); exact h rfl), if_neg (fun h => h (by rw [psOf_get l _ hx, if_pos (List.mem_of_getElem? hk)])), hmiss, hset, if_neg hsum, hdec]
    simp [setE, Ent.ky, hset]
include hm h0 h1 hl hp nd hs hk in
theorem add_again : addE mk 1 (Tof mk id l p (left.eraseIdx k)) p (partM mk id l x) = ((0, false, 151), Tof mk id l p (left.eraseIdx k)) := by
  have hx : x < cntP l.length := hs x (List.mem_of_getElem? hk)
  have hr := readL_part hm h0 h1 hl hx
  have hne : left.eraseIdx k ≠ List.range (cntP l.length) := by
    rcases cut_ne (l := l) hk with h | h
    · exact h
    · exact absurd (nodup_le nd hs) h
  have hT' : Tof mk id l p (left.eraseIdx k) = [⟨p, id, mk l, psOf l (cntP l.length) (left.eraseIdx k)⟩] := by unfold Tof; rw [if_neg hne]
  rw [hT']
  unfold addE
  rw [if_neg (by simp [hp]), hr]
  have hf : findE [(⟨p, id, mk l, psOf l (cntP l.length) (left.eraseIdx k)⟩ : Ent)] (p, id) = some ⟨p, id, mk l, psOf l (cntP l.length) (left.eraseIdx k)⟩ := by simp [findE, Ent.ky]
  simp only [Int.toNat_natCast]
  rw [hf]
  simp only
  rw [if_neg (by rintro (h | h); exact h (by rw [psOf_len]); exact h rfl), if_pos]
  rw [psOf_get l _ hx, if_neg (fun hh => ((mem_cut nd hk x).1 hh).2 rfl)]
  simp
include hp in
theorem miss_step (hne : left ≠ List.range (cntP l.length)) : missP (Tof mk id l p left) (p, id) = (missL (psOf l (cntP l.length) left), 0) := by
  have hT : Tof mk id l p left = [⟨p, id, mk l, psOf l (cntP l.length) left⟩] := by unfold Tof; rw [if_neg hne]
  have hf : findE [(⟨p, id, mk l, psOf l (cntP l.length) left⟩ : Ent)] (p, id) = some ⟨p, id, mk l, psOf l (cntP l.length) left⟩ := by simp [findE, Ent.ky]
  unfold missP
  rw [if_neg (by simp [hp]), hT, hf]
include hp nd hs in
theorem take_early (hne : left ≠ List.range (cntP l.length)) (hpos : 0 < left.length) : takeP (Tof mk id l p left) (p, id) = (([], 261), Tof mk id l p left) := by
  have hT : Tof mk id l p left = [⟨p, id, mk l, psOf l (cntP l.length) left⟩] := by unfold Tof; rw [if_neg hne]
  have hf : findE [(⟨p, id, mk l, psOf l (cntP l.length) left⟩ : Ent)] (p, id) = some ⟨p, id, mk l, psOf l (cntP l.length) left⟩ := by simp [findE, Ent.ky]
  unfold takeP
  rw [if_neg (by simp [hp]), hT, hf]
  simp only
  rw [if_pos (by rw [missL_psOf l nd hs]; exact hpos)]
include hl hp in
theorem take_all : takeP (Tof mk id l p []) (p, id) = ((l, 0), []) := by
  have hT : Tof mk id l p [] = [⟨p, id, mk l, psOf l (cntP l.length) []⟩] := by
    unfold Tof
    rw [if_neg]
    intro e
    have := congrArg List.length e
    have hc := cntP_small hl
    simp at this
    omega
  have hf : findE [(⟨p, id, mk l, psOf l (cntP l.length) []⟩ : Ent)] (p, id) = some ⟨p, id, mk l, psOf l (cntP l.length) []⟩ := by simp [findE, Ent.ky]
  unfold takeP
  rw [if_neg (by simp [hp]), hT, hf]
  simp only
  rw [if_neg (by rw [missL_psOf l List.nodup_nil (by simp)]; simp), textL_all l]
  simp [Ent.ky]
include hp in
theorem take_gone : takeP [] (p, id) = (([], 201), []) := by
  unfold takeP
  rw [if_neg (by simp [hp])]
  rfl
end
end Go.Proofs.YtkceaepbjdfccaaDoor
