/-
The document: its tray, the small functions.
-/
import Derived.Test.YtkceaepbjdfccaaDoorXA
/-
letheref26.Tray in memory: a list of parcels, six cells each, whose parts are never written again.
-/
namespace Go.Proofs.YtkceaepbjdfccaaDoor
open Go.RowKit
/-- the cells of a parcel -/
def ecl (e : Ent) (iv tv : Value) : List Value := [.string (strOf e.peer), .int .u32 e.id, .int .i64 (e.parts.length : Int), .string (strOf e.sum), iv, tv]
theorem ecl_len (e : Ent) (iv tv : Value) : (ecl e iv tv).length = 6 := rfl
def bls (ps : List (Option (List UInt8))) : List Value := ps.map fun o => .bool o.isSome
def cts (ps : List (Option (List UInt8))) : List (List UInt8) := ps.map fun o => o.getD []
theorem textL_cts (ps : List (Option (List UInt8))) : textL ps = (cts ps).flatten := rfl
/-- what a parcel's slices hold; all their blocks are among G -/
structure RPc (W : World) (G : Nat → Prop) (ps : List (Option (List UInt8))) (iv tv : Value) : Prop where
  i : Rd W iv (bls ps)
  ib : ∀ b, iv.ownBlock = some b → G b
  t : ∃ vals : List Value, Rd W tv vals ∧ vals.length = ps.length ∧ (∀ u ∈ vals, u.oneCell' = true) ∧ ∀ (j : Nat) (x : Value) (c : List UInt8), vals[j]? = some x → (cts ps)[j]? = some c → Rd W x (bv c) ∧ ∀ b, x.ownBlock = some b → G b
  tb : ∀ b, tv.ownBlock = some b → G b
  n1 : 1 ≤ ps.length ∧ ps.length ≤ 64
  c5 : ∀ c ∈ cts ps, c.length ≤ 497
theorem RPc.kp {W W' : World} {G : Nat → Prop} {ps : List (Option (List UInt8))} {iv tv : Value} {L : List Nat} (h : RPc W G ps iv tv) (k : Kp L W W') (hL : ∀ b ∈ L, ¬ G b) : RPc W' G ps iv tv := by
  have hn : ∀ v : Value, (∀ b, v.ownBlock = some b → G b) → ∀ b, v.ownBlock = some b → b ∉ L := fun v hv b hb hm => hL b hm (hv b hb)
  obtain ⟨vals, h1, h2, h3, h4⟩ := h.t
  exact ⟨h.i.kp k (hn _ h.ib), h.ib, ⟨vals, h1.kp k (hn _ h.tb), h2, h3, fun j x c hx hc => ⟨(h4 j x c hx hc).1.kp k (hn _ (h4 j x c hx hc).2), (h4 j x c hx hc).2⟩⟩, h.tb, h.n1, h.c5⟩
theorem RPc.mono {W : World} {G G' : Nat → Prop} {ps : List (Option (List UInt8))} {iv tv : Value} (h : RPc W G ps iv tv) (hG : ∀ b, G b → G' b) : RPc W G' ps iv tv := by
  obtain ⟨vals, h1, h2, h3, h4⟩ := h.t
  exact ⟨h.i, fun b hb => hG b (h.ib b hb), ⟨vals, h1, h2, h3, fun j x c hx hc => ⟨(h4 j x c hx hc).1, fun b hb => hG b ((h4 j x c hx hc).2 b hb)⟩⟩, fun b hb => hG b (h.tb b hb), h.n1, h.c5⟩
theorem RPc.rdd {W : World} {G : Nat → Prop} {ps : List (Option (List UInt8))} {iv tv : Value} (h : RPc W G ps iv tv) : Rdd W tv (cts ps) := by
  obtain ⟨vals, h1, h2, _, h4⟩ := h.t
  exact Rdd.of h1 (by rw [h2]; simp [cts]) (fun i x l hx hl => (h4 i x l hx hl).1)
/-! rows of six -/
theorem flat_len6 : ∀ (cs : List (List Value)), (∀ c ∈ cs, c.length = 6) → cs.flatten.length = cs.length * 6
  | [], _ => rfl
  | a :: r, h => by
    rw [List.flatten_cons, List.length_append, flat_len6 r (fun c hc => h c (List.mem_cons_of_mem _ hc)), h a List.mem_cons_self, List.length_cons]
    omega
theorem flat6_at : ∀ (cs : List (List Value)) (i : Nat) (c : List Value) (j : Nat), (∀ c ∈ cs, c.length = 6) → cs[i]? = some c → j < 6 → cs.flatten[i * 6 + j]? = c[j]?
  | [], i, c, j, _, h, _ => by simp at h
  | a :: r, 0, c, j, hs, h, hj => by
    have ha := hs a List.mem_cons_self
    obtain rfl : a = c := by simpa using h
    rw [List.flatten_cons, Nat.zero_mul, Nat.zero_add, List.getElem?_append_left (by omega)]
  | a :: r, i + 1, c, j, hs, h, hj => by
    have ha := hs a List.mem_cons_self
    rw [List.flatten_cons, List.getElem?_append_right (by omega), show (i + 1) * 6 + j - a.length = i * 6 + j by omega]
    exact flat6_at r i c j (fun c hc => hs c (List.mem_cons_of_mem _ hc)) (by simpa using h) hj
theorem flat6_set : ∀ (cs : List (List Value)) (i : Nat) (c : List Value), (∀ c ∈ cs, c.length = 6) → i < cs.length → (cs.set i c).flatten = cs.flatten.take (i * 6) ++ (c ++ cs.flatten.drop (i * 6 + 6))
  | [], i, c, _, h => by simp at h
  | a :: r, 0, c, hs, h => by
    have ha := hs a List.mem_cons_self
    simp only [List.set_cons_zero, List.flatten_cons, Nat.zero_mul, Nat.zero_add, List.take_zero, List.nil_append]
    rw [← ha, List.drop_left]
  | a :: r, i + 1, c, hs, h => by
    have ha := hs a List.mem_cons_self
    have ih := flat6_set r i c (fun c hc => hs c (List.mem_cons_of_mem _ hc)) (by simpa using h)
    simp only [List.set_cons_succ, List.flatten_cons]
    rw [ih, show (i + 1) * 6 = a.length + i * 6 by omega, List.take_length_add_append, show a.length + i * 6 + 6 = a.length + (i * 6 + 6) by omega, List.drop_length_add_append, List.append_assoc]
theorem flat6_take : ∀ (cs : List (List Value)) (i : Nat), (∀ c ∈ cs, c.length = 6) → (cs.take i).flatten = cs.flatten.take (i * 6)
  | [], i, _ => by simp
  | a :: r, 0, _ => by simp
  | a :: r, i + 1, hs => by
    have ha := hs a List.mem_cons_self
    rw [List.take_succ_cons, List.flatten_cons, List.flatten_cons, flat6_take r i (fun c hc => hs c (List.mem_cons_of_mem _ hc)), show (i + 1) * 6 = a.length + i * 6 by omega, List.take_length_add_append]
theorem flat6_drop : ∀ (cs : List (List Value)) (i : Nat), (∀ c ∈ cs, c.length = 6) → (cs.drop i).flatten = cs.flatten.drop (i * 6)
  | [], i, _ => by simp
  | a :: r, 0, _ => by simp
  | a :: r, i + 1, hs => by
    have ha := hs a List.mem_cons_self
    rw [List.drop_succ_cons, List.flatten_cons, flat6_drop r i (fun c hc => hs c (List.mem_cons_of_mem _ hc)), show (i + 1) * 6 = a.length + i * 6 by omega, List.drop_length_add_append]
/-- the document's tray: at block r; never written again: the blocks of G -/
structure RTz (W : World) (G : Nat → Prop) (r : Nat) (most : Int) (lv : Value) (cs : List (List Value)) (T : List Ent) : Prop where
  gb : ∀ b, G b → b < W.heap.size
  hr : W.heap[r]? = some (.cells #[lv, .int .i64 most] 117 (0, 0))
  gr : ¬ G r
  row : W.ownsRow 0 153 6 lv T.length cs.flatten
  gl : ∀ b, lv.ownBlock = some b → ¬ G b
  cl : cs.length = T.length
  ce : ∀ (j : Nat) (c : List Value) (e : Ent), cs[j]? = some c → T[j]? = some e → ∃ iv tv, c = ecl e iv tv ∧ RPc W G e.parts iv tv
  nd : (T.map Ent.ky).Nodup
  hm : 1 ≤ most ∧ most ≤ 64
  len : (T.length : Int) ≤ most
/-- .. all of it in blocks of H -/
structure RT (W : World) (H : Nat → Prop) (r : Nat) (most : Int) (T : List Ent) : Prop where
  lt : ∀ b, H b → b < W.heap.size
  ex : ∃ G lv cs, RTz W G r most lv cs T ∧ H r ∧ (∀ b, lv.ownBlock = some b → H b) ∧ ∀ b, G b → H b
section
variable {W W' : World} {G : Nat → Prop} {r : Nat} {most : Int} {lv : Value} {cs : List (List Value)} {T : List Ent}
theorem RTz.six (h : RTz W G r most lv cs T) : ∀ c ∈ cs, c.length = 6 := by
  intro c hc
  obtain ⟨j, hj, rfl⟩ := List.getElem_of_mem hc
  obtain ⟨iv, tv, he, _⟩ := h.ce j cs[j] (T[j]'(by rw [← h.cl]; exact hj)) (List.getElem?_eq_getElem hj) (List.getElem?_eq_getElem _)
  rw [he]; rfl
theorem RTz.kp {L : List Nat} (h : RTz W G r most lv cs T) (k : Kp L W W') (hL : ∀ b ∈ L, ¬ G b ∧ b ≠ r ∧ lv.ownBlock ≠ some b) : RTz W' G r most lv cs T :=
  ⟨fun b hb => Nat.lt_of_lt_of_le (h.gb b hb) k.size, k.heap h.hr (fun hm => (hL r hm).2.1 rfl), h.gr, by
    refine ⟨h.row.1, ?_⟩
    rcases h.row.2 with hn | ⟨g, cap, cur, hv, hb, hg, x⟩
    · exact .inl hn
    · exact .inr ⟨g, cap, cur, hv, hb, k.heap hg (fun hm => (hL g hm).2.2 (by rw [hv]; rfl)), x⟩, h.gl, h.cl, fun j c e hc he => by
    obtain ⟨iv, tv, h1, h2⟩ := h.ce j c e hc he
    exact ⟨iv, tv, h1, h2.kp k (fun b hb => (hL b hb).1)⟩, h.nd, h.hm, h.len⟩
theorem RTz.kp0 (h : RTz W G r most lv cs T) (k : Kp [] W W') : RTz W' G r most lv cs T := h.kp k (by simp)
theorem RTz.nat (h : RTz W G r most lv cs T) : T.length ≤ 64 := by have h1 := h.len; have h2 := h.hm; omega
/-- where the list lies -/
theorem RTz.form (h : RTz W G r most lv cs T) : ∃ a c, lv = .slice a T.length c := by
  rcases h.row.2 with ⟨h1, h2⟩ | ⟨g, cap, cur, hv, _⟩
  · exact ⟨none, 0, by rw [h1, h2]⟩
  · exact ⟨_, _, hv⟩
theorem RTz.c0 (h : RTz W G r most lv cs T) : W.cell? ⟨r, 0, none⟩ = some lv := by rw [cell_of_row _ _ 0 _ _ _ h.hr]; rfl
theorem RTz.c1 (h : RTz W G r most lv cs T) : W.cell? ⟨r, 1, none⟩ = some (.int .i64 most) := by rw [cell_of_row _ _ 1 _ _ _ h.hr]; rfl
/-- parcel i -/
theorem RTz.at {i : Nat} {e : Ent} (h : RTz W G r most lv cs T) (hi : T[i]? = some e) : ∃ lb lc iv tv, lv = .slice (some ⟨lb, 0, none⟩) T.length lc ∧ cs[i]? = some (ecl e iv tv) ∧ W.rangeAt lb (i * 6) (ecl e iv tv) ∧ W.there lb (i * 6) 6 ∧ RPc W G e.parts iv tv ∧ lb < W.heap.size ∧ lb ≠ r := by
  have hlt := (List.getElem?_eq_some_iff.1 hi).1
  have hc : cs[i]? = some (cs[i]'(by rw [h.cl]; exact hlt)) := List.getElem?_eq_getElem _
  obtain ⟨iv, tv, hce, hre⟩ := h.ce i _ e hc hi
  rw [hce] at hc
  rcases h.row.2 with ⟨_, h2⟩ | ⟨g, cap, cur, hv, hb, hg, hn, hm, hs, ht⟩
  · omega
  · have hin : ∀ j, j < 6 → i * 6 + j < cur.size := fun j hj => by rw [hs]; have := Nat.mul_le_mul_right 6 (show i + 1 ≤ cap by omega); omega
    refine ⟨g, cap, iv, tv, hv, hc, fun j v hj => ?_, fun j hj => ?_, hre, (Array.getElem?_eq_some_iff.1 hg).1, ?_⟩
    · have hj6 : j < 6 := (List.getElem?_eq_some_iff.1 hj).1
      rw [cell_of_row W g _ _ _ _ hg]
      have h1 := flat6_at cs i _ j h.six hc hj6
      rw [← ht, List.getElem?_take, if_pos (by have := Nat.mul_le_mul_right 6 (show i + 1 ≤ T.length by omega); omega), hj] at h1
      simpa using h1
    · rw [cell_of_row W g _ _ _ _ hg, frozen_of_row W g _ _ _ hg]
      exact ⟨by rw [Array.getElem?_eq_getElem (hin j hj)]; rfl, rfl⟩
    · rintro rfl
      have h1 := h.hr
      rw [hg] at h1
      simp only [Option.some.injEq, Obj.cells.injEq] at h1
      exact absurd h1.2.1 (by decide)
end
end Go.Proofs.YtkceaepbjdfccaaDoor
/-
letheref26: New, (*Tray).Len, find.
-/
namespace Go.Proofs.YtkceaepbjdfccaaDoor
open Go.RowKit
/-- where a key stands -/
def FindAt (T : List Ent) (k : Ky) (ix : Int) : Prop := (ix = -1 ∧ ∀ (j : Nat) (e : Ent), T[j]? = some e → e.ky ≠ k) ∨ ∃ (i : Nat) (e : Ent), ix = (i : Int) ∧ T[i]? = some e ∧ e.ky = k ∧ ∀ (j : Nat), j < i → ∀ (e' : Ent), T[j]? = some e' → e'.ky ≠ k
theorem findAt_or (T : List Ent) (k : Ky) : (FindAt T k (-1) ∧ findE T k = none) ∨ ∃ (i : Nat) (e : Ent), FindAt T k (i : Int) ∧ T[i]? = some e ∧ e.ky = k ∧ findE T k = some e := by
  induction T with
  | nil => exact .inl ⟨Or.inl ⟨rfl, fun j e h => by simp at h⟩, rfl⟩
  | cons a T ih =>
    by_cases ha : a.ky = k
    · refine .inr ⟨0, a, Or.inr ⟨0, a, rfl, rfl, ha, fun j hj => absurd hj (Nat.not_lt_zero _)⟩, rfl, ha, ?_⟩
      simp [findE, ha]
    · have hf : findE (a :: T) k = findE T k := by simp [findE, ha]
      rcases ih with ⟨h1, h2⟩ | ⟨i, e, h1, h2, h3, h4⟩
      · rcases h1 with ⟨_, h1⟩ | ⟨i, _, h1, _⟩
        · refine .inl ⟨Or.inl ⟨rfl, fun j e h => ?_⟩, by rw [hf, h2]⟩
          cases j with
          | zero => obtain rfl : a = e := by simpa using h
                    exact ha
          | succ j => exact h1 j e (by simpa using h)
        · omega
      · refine .inr ⟨i + 1, e, ?_, by simpa using h2, h3, by rw [hf, h4]⟩
        rcases h1 with ⟨h1, _⟩ | ⟨i', e', h5, h6, h7, h8⟩
        · omega
        · obtain rfl : i = i' := by omega
          refine Or.inr ⟨i + 1, e, rfl, by simpa using h2, h3, fun j hj e'' hj2 => ?_⟩
          cases j with
          | zero => obtain rfl : a = e'' := by simpa using hj2
                    exact ha
          | succ j => exact h8 j (by omega) e'' (by simpa using hj2)
set_option maxRecDepth 100000 in
theorem rnew_bad (most : Int) (w : World) (h : ¬ (1 ≤ most ∧ most ≤ 64)) :
    Calls Tryd.prog 31 #[.int .i64 most] w fun e w' => e = .returned (.tuple #[.pointer none, .int .i64 2]) ∧ w = w' := by
  by_cases h1 : most < 1
  · clear h
    go_enter Tryd.func31, Tryd.ntmps31
    go_wp2_with fail
    go_ret2
    exact ⟨rfl, rfl⟩
  · have h2 : 64 < most := by omega
    clear h
    go_enter Tryd.func31, Tryd.ntmps31
    go_wp2_with fail
    go_ret2
    exact ⟨rfl, rfl⟩
set_option maxRecDepth 100000 in
theorem rnew_ok (most : Int) (w : World) (h : 1 ≤ most ∧ most ≤ 64) :
    Calls Tryd.prog 31 #[.int .i64 most] w fun e w' => ∃ r, e = .returned (.tuple #[.pointer (some ⟨r, 0, none⟩), .int .i64 0]) ∧ RTz w' (fun _ => False) r most (.slice none 0 0) [] [] ∧ w.heap.size ≤ r ∧ Kp [] w w' := by
  have h1 : ¬ most < 1 := by omega
  have h2 : ¬ 64 < most := by omega
  have HH := Lib.hid h
  clear h
  go_enter Tryd.func31, Tryd.ntmps31
  go_wp2_with fail
  go_ret2
  refine ⟨_, rfl, ?_, Nat.le_refl _, (Kp.refl [] w).alloc _⟩
  exact ⟨fun b hb => hb.elim, heap_alloc_new w _, fun hb => hb, World.ownsRow_nil _ _ _ 6, (fun b hb => by cases hb), rfl, (fun j c e h => by simp at h), List.nodup_nil, HH.out, by have := HH.out.1; simp; omega⟩
section
variable {G : Nat → Prop} {r : Nat} {most : Int} {lv : Value} {cs : List (List Value)} {T : List Ent}
set_option maxRecDepth 100000 in
theorem rlen_any (w : World) (h : RTz w G r most lv cs T) :
    Calls Tryd.prog 33 #[.pointer (some ⟨r, 0, none⟩)] w fun e w' => e = .returned (.int .i64 T.length) ∧ w = w' := by
  obtain ⟨a, c, rfl⟩ := h.form
  have hc := h.c0
  clear h
  go_enter Tryd.func33, Tryd.ntmps33
  go_wp2_with fail
  go_ret
  exact ⟨rfl, rfl⟩
theorem range6 {W : World} {lb o : Nat} {c : List Value} (h : W.rangeAt lb o c) {j : Nat} {v : Value} (hj : c[j]? = some v) : W.cell? ⟨lb, o + j, none⟩ = some v := h j v hj
set_option maxRecDepth 100000 in
theorem find_any (p : List UInt8) (id ix : Int) (w : World) (h : RTz w G r most lv cs T) (hf : FindAt T (p, id) ix) :
    Calls Tryd.prog 76 #[.pointer (some ⟨r, 0, none⟩), .string (strOf p), .int .u32 id] w fun e w' => e = .returned (.int .i64 ix) ∧ w = w' := by
  obtain ⟨a, c, hlv⟩ := h.form
  have hc := h.c0
  rw [hlv] at hc
  have HR := Lib.hid h
  have HF := Lib.hid hf
  have HLV := Lib.hid hlv
  have hn := h.nat
  obtain ⟨n, hnn⟩ : ∃ n, T.length = n := ⟨_, rfl⟩
  have HN := Lib.hid hnn
  rw [hnn] at hc hn
  clear h hf hlv hnn
  go_enter Tryd.func76, Tryd.ntmps76
  go_wp2_with fail
  go_loopw [7] (fun i wr => ∃ k : Nat, k ≤ n ∧ i = .int .i64 k ∧ wr = w ∧ Hid (∀ j, j < k → ∀ e, T[j]? = some e → e.ky ≠ (p, id))) (fun i _ => n - (intOf i).toNat)
  case atStart => exact ⟨0, Nat.zero_le _, rfl, rfl, Lib.hid (fun j hj => absurd hj (Nat.not_lt_zero _))⟩
  case round =>
    obtain ⟨k, hk, rfl, rfl, HA⟩ := hrel
    by_cases hlt : k < n
    · have hkl : k < T.length := by rw [HN.out]; exact hlt
      obtain ⟨e, hke⟩ : ∃ e, T[k]? = some e := ⟨_, List.getElem?_eq_getElem hkl⟩
      obtain ⟨lb, lc, iv, tv, hl1, _, hrg, _, hre, _, _⟩ := HR.out.at hke
      rw [HLV.out] at hl1
      simp only [Value.slice.injEq, true_and] at hl1
      obtain ⟨rfl, _⟩ := hl1
      have hq0 : wr.cell? ⟨lb, k * 6, none⟩ = some (.string (strOf e.peer)) := range6 hrg (j := 0) rfl
      have hq1 : wr.cell? ⟨lb, k * 6 + 1, none⟩ = some (.int .u32 e.id) := range6 hrg (j := 1) rfl
      have hkI : (k : Int) < (n : Int) := by omega
      have HKE := Lib.hid hke
      have hpe := strOf_beq e.peer p
      clear hrg hre hke
      have hnx : ¬ e.ky = (p, id) → ∀ j, j < k + 1 → ∀ e, T[j]? = some e → e.ky ≠ (p, id) := fun hne j hj e' he' => by
        by_cases hjk : j = k
        · subst hjk
          rw [HKE.out] at he'
          cases he'
          exact hne
        · exact HA.out j (by omega) e' he'
      by_cases hp : e.peer = p
      · have hq : ((strOf e.peer).toList == (strOf p).toList) = true := by rw [hpe]; simp [hp]
        by_cases hi : e.id = id
        · have HX : Hid (ix = (k : Int)) := Lib.hid (by
            rcases HF.out with ⟨_, h1⟩ | ⟨i, e', h2, h3, h4, h5⟩
            · exact absurd (show e.ky = (p, id) by unfold Ent.ky; rw [hp, hi]) (h1 k e HKE.out)
            · rw [h2]
              rcases Nat.lt_trichotomy i k with h | h | h
              · exact absurd h4 (HA.out i h e' h3)
              · rw [h]
              · exact absurd (show e.ky = (p, id) by unfold Ent.ky; rw [hp, hi]) (h5 k h e HKE.out))
          have hqi : (e.id == id) = true := by simp [hi]
          clear hnx hp hi hpe
          generalize strOf e.peer = s1 at *
          generalize strOf p = s2 at *
          generalize e.id = d1 at *
          go_wp2_with fail
          go_ret
          exact ⟨by rw [HX.out]; rfl, rfl⟩
        · have hqi : (e.id == id) = false := by simp [hi]
          have HN2 := Lib.hid (hnx (by unfold Ent.ky; rw [Prod.mk.injEq]; rintro ⟨_, h⟩; exact hi h))
          clear hnx hp hi hpe
          generalize strOf e.peer = s1 at *
          generalize strOf p = s2 at *
          generalize e.id = d1 at *
          go_wp2_with fail
          go_roundw
          case rel => exact ⟨k + 1, by omega, by go_num, trivial, HN2⟩
          case measure => simp [intOf]; omega
      · have hq : ((strOf e.peer).toList == (strOf p).toList) = false := by rw [hpe]; simp [hp]
        have HN2 := Lib.hid (hnx (by unfold Ent.ky; rw [Prod.mk.injEq]; rintro ⟨h, _⟩; exact hp h))
        clear hnx hp hpe
        generalize strOf e.peer = s1 at *
        generalize strOf p = s2 at *
        go_wp2_with fail
        go_roundw
        case rel => exact ⟨k + 1, by omega, by go_num, trivial, HN2⟩
        case measure => simp [intOf]; omega
    · have hkI : ¬ (k : Int) < (n : Int) := by omega
      have HX : Hid (ix = -1) := Lib.hid (by
        rcases HF.out with ⟨h1, _⟩ | ⟨i, e', h2, h3, h4, h5⟩
        · exact h1
        · exact absurd h4 (HA.out i (by have := (List.getElem?_eq_some_iff.1 h3).1; rw [HN.out] at this; omega) e' h3))
      go_wp2_with fail
      go_ret
      exact ⟨by rw [HX.out]; rfl, rfl⟩
end
end Go.Proofs.YtkceaepbjdfccaaDoor
/-
letheref26: (*Tray).gone.
-/
namespace Go.Proofs.YtkceaepbjdfccaaDoor
open Go.RowKit
def TP : TypeId := 153
/-- m parcels that are read -/
def Src6 (w : World) (v : Value) (m : Nat) (news : List Value) : Prop := ∃ a c, v = .slice (some a) m c ∧ news.length = m * 6 ∧ ∀ (j : Nat) (u : Value), news[j]? = some u → w.cell? (a.add j) = some u
theorem Src6.kp0 {w w' : World} {v : Value} {m : Nat} {news : List Value} (h : Src6 w v m news) (k : Kp [] w w') : Src6 w' v m news := by
  obtain ⟨a, c, h1, h2, h3⟩ := h
  exact ⟨a, c, h1, h2, fun j u hu => k.cell_some (h3 j u hu) (by simp)⟩
theorem parcel_el : Tryd.prog.elem 115 = 153 := by kernel_rfl
theorem parcel_sz (W : World) : (sizeOf 153).run Tryd.prog W = .ok 6 W := by kernel_rfl
theorem run_app6 (ty : TypeId) {w : World} {B : Nat} {v src : Value} {n m : Nat} {xs news : List Value} (hown : w.ownsRow B 153 6 v n xs) (hsrc : Src6 w src m news) (h1 : ∀ u ∈ news, u.oneCell' = true)
    (hl : n + m ≤ 1000) (hB : B ≤ w.heap.size) :
    ∃ v' w', (Builtin.append_ #[115, 115] ty #[v, src]).run Tryd.prog w = .ok v' w' ∧ w'.ownsRow B 153 6 v' (n + m) (xs ++ news) ∧ w.grownBy w' v.ownBlock := by
  obtain ⟨a, c, rfl, hn, hc⟩ := hsrc
  have ht : Tryd.prog.underlying 115 = some (.slice 153) := by kernel_rfl
  have hi0 : (Tryd.prog.info? 153).map (fun i => (i.zero, i.size, i.bytes)) = some (some (.agg #[.string ByteArray.empty, .int .u32 0, .int .i64 0, .string ByteArray.empty, .slice none 0 0, .slice none 0 0]), 6, 96) := by kernel_rfl
  cases hi : Tryd.prog.info? 153 with
  | none => rw [hi] at hi0; simp at hi0
  | some i =>
    rw [hi] at hi0
    simp only [Option.map_some, Option.some.injEq, Prod.mk.injEq] at hi0
    obtain ⟨v', w', hr, h2, h3, _⟩ := run_append_own (P := Tryd.prog) w B 115 ty 153 i _ 6 96 ht hi hi0.1 hi0.2.1 hi0.2.2 (by kernel_rfl) (by decide) v n xs hown a m c news hn hc h1 (by unfold maxLen; omega) (by omega) hB
    exact ⟨v', w', hr, h2, h3⟩
theorem row_form {w : World} {B s n : Nat} {e : TypeId} {v : Value} {xs : List Value} (h : w.ownsRow B e s v n xs) : ∃ a c, v = .slice a n c := by
  rcases h.2 with ⟨h1, h2⟩ | ⟨g, cap, cur, hv, _⟩
  · exact ⟨none, 0, by rw [h1, h2]⟩
  · exact ⟨_, _, hv⟩
theorem wpl_app6 {ops : Array Oper} {rest : List Oper} {o : Oper} {a : Act} {Q : Exit → Act → World → Prop} (hg : o.guard = none) (s x : Operand)
    (hop : o.op = Op.call { callee := Callee.builtin Builtin.append, args := #[s, x], argTypes := #[115, 115] })
    {w : World} {B : Nat} {v src : Value} {n m : Nat} {xs news : List Value} (hs : a.eval s = v) (hx : a.eval x = src) (hown : w.ownsRow B 153 6 v n xs) (hsrc : Src6 w src m news) (h1 : ∀ u ∈ news, u.oneCell' = true)
    (hl : n + m ≤ 1000) (hB : B ≤ w.heap.size)
    (hK : ∀ v' w', w'.ownsRow B 153 6 v' (n + m) (xs ++ news) → w.grownBy w' v.ownBlock → wpList Tryd.prog ops Q rest (a.put o.dst v') w') : wpList Tryd.prog ops Q (o :: rest) a w :=
  wpList_plain hg fun _ hK' => by
    obtain ⟨v', w', hr, h2, h3⟩ := run_app6 o.type hown hsrc h1 hl hB
    unfold Oper.wp
    simp [execOp, hop, resolve, invoke, builtin, hs, hx, hr, Result.andThen]
    exact hK' _ _ (hK v' w' h2 h3)
section
variable {W W' : World} {G : Nat → Prop} {r : Nat} {most : Int} {lv : Value} {cs : List (List Value)} {T : List Ent}
theorem RTz.one (h : RTz W G r most lv cs T) : ∀ u ∈ cs.flatten, u.oneCell' = true := by
  intro u hu
  rw [List.mem_flatten] at hu
  obtain ⟨c, hc, hu⟩ := hu
  obtain ⟨j, hj, rfl⟩ := List.getElem_of_mem hc
  obtain ⟨iv, tv, he, hre⟩ := h.ce j cs[j] (T[j]'(by rw [← h.cl]; exact hj)) (List.getElem?_eq_getElem hj) (List.getElem?_eq_getElem _)
  rw [he] at hu
  obtain ⟨ai, ci, hi⟩ := hre.i.form
  obtain ⟨vals, hv, _⟩ := hre.t
  obtain ⟨at_, ct, ht⟩ := hv.form
  simp only [ecl, List.mem_cons, List.not_mem_nil, or_false] at hu
  rcases hu with rfl | rfl | rfl | rfl | rfl | rfl
  · rfl
  · rfl
  · rfl
  · rfl
  · rw [hi]; rfl
  · rw [ht]; rfl
/-- what gone cuts out of the list -/
theorem RTz.cuts {i : Nat} (h : RTz W G r most lv cs T) (hi : i < T.length) : ∃ a c v1 v2, lv = .slice a T.length c ∧
    (∀ X, (Instr.sliceAt 115 (.slice a T.length c) none (some (.int .i64 (i : Int))) none).run Tryd.prog X = .ok v1 X) ∧ Src6 W v1 i (cs.take i).flatten ∧
    (∀ X, (Instr.sliceAt 115 (.slice a T.length c) (some (.int .i64 ((i : Int) + 1))) none none).run Tryd.prog X = .ok v2 X) ∧ Src6 W v2 (T.length - (i + 1)) (cs.drop (i + 1)).flatten := by
  rcases h.row.2 with ⟨_, h2⟩ | ⟨g, cap, cur, hv, hb, hg, hn, hm, hs, ht⟩
  · omega
  · have hu : Tryd.prog.underlying 115 = some (.slice (Tryd.prog.elem 115)) := by kernel_rfl
    have hcell : ∀ (j : Nat) (u : Value), cs.flatten[j]? = some u → W.cell? ⟨g, j, none⟩ = some u := fun j u hj => by
      rw [cell_of_row W g _ _ _ _ hg]
      rw [← ht, List.getElem?_take] at hj
      split at hj
      · simpa using hj
      · cases hj
    refine ⟨some ⟨g, 0, none⟩, cap, sliced (some ⟨g, 0, none⟩) 0 i cap 6, sliced (some ⟨g, 0, none⟩) (i + 1) T.length cap 6, hv, fun X => ?_, ?_, fun X => ?_, ?_⟩
    · rw [run_sliceAt_slice X 115 _ _ _ _ hu, run_slice_h X 115 _ _ _ hu .i64 (i : Int) (by omega) (by omega), parcel_el, parcel_sz]
      rfl
    · refine ⟨⟨g, 0, none⟩, cap, ?_, by rw [flat_len6 _ (fun c hc => h.six c (List.mem_of_mem_take hc)), List.length_take, h.cl, Nat.min_eq_left (by omega)], fun j u hj => ?_⟩
      · unfold sliced
        rw [if_neg (by omega)]
        rfl
      · rw [flat6_take cs i h.six, List.getElem?_take] at hj
        rw [Addr.add_lit, Nat.zero_add]
        split at hj
        · exact hcell j u hj
        · cases hj
    · rw [run_sliceAt_slice X 115 _ _ _ _ hu, run_slice_l X 115 _ _ _ hu .i64 ((i : Int) + 1) (by omega) (by omega), parcel_el, parcel_sz]
      rfl
    · by_cases hc : cap = i + 1
      · refine ⟨⟨g, 0, none⟩, cap - (i + 1), ?_, by rw [flat_len6 _ (fun c hc => h.six c (List.mem_of_mem_drop hc)), List.length_drop, h.cl], fun j u hj => ?_⟩
        · unfold sliced
          rw [if_pos hc]
        · rw [List.drop_eq_nil_of_le (by rw [h.cl]; omega)] at hj
          simp at hj
      · refine ⟨⟨g, (i + 1) * 6, none⟩, cap - (i + 1), ?_, by rw [flat_len6 _ (fun c hc => h.six c (List.mem_of_mem_drop hc)), List.length_drop, h.cl], fun j u hj => ?_⟩
        · unfold sliced
          rw [if_neg hc]
          simp [Addr.add]
        · rw [flat6_drop cs (i + 1) h.six, List.getElem?_drop] at hj
          rw [Addr.add_lit]
          exact hcell _ u hj
/-- another list put in -/
theorem RTz.put (h : RTz W G r most lv cs T) {B : Nat} {v' : Value} {cs' : List (List Value)} {T' : List Ent} (row : W.ownsRow B 153 6 v' T'.length cs'.flatten) (gl : ∀ b, v'.ownBlock = some b → ¬ G b) (cl : cs'.length = T'.length)
    (ce : ∀ (j : Nat) (c : List Value) (e : Ent), cs'[j]? = some c → T'[j]? = some e → ∃ iv tv, c = ecl e iv tv ∧ RPc W G e.parts iv tv) (nd : (T'.map Ent.ky).Nodup) (len : (T'.length : Int) ≤ most) : RTz (W.setCell ⟨r, 0, none⟩ v') G r most v' cs' T' := by
  have k : Kp [r] W (W.setCell ⟨r, 0, none⟩ v') := (Kp.refl [r] W).setCell (.inl (by simp)) _
  refine ⟨fun b hb => Nat.lt_of_lt_of_le (h.gb b hb) k.size, heap_setCell_same W r 0 _ _ _ h.hr, h.gr, ⟨row.1, ?_⟩, gl, cl, fun j c e hc he => ?_, nd, h.hm, len⟩
  · rcases row.2 with hn | ⟨g, cap, cur, hv, hb, hg, x⟩
    · exact .inl hn
    · refine .inr ⟨g, cap, cur, hv, Nat.zero_le _, k.heap hg (fun hm => ?_), x⟩
      rw [List.mem_singleton] at hm
      subst hm
      have h1 := h.hr
      rw [hg] at h1
      simp only [Option.some.injEq, Obj.cells.injEq] at h1
      exact absurd h1.2.1 (by decide)
  · obtain ⟨iv, tv, h1, h2⟩ := ce j c e hc he
    exact ⟨iv, tv, h1, h2.kp k (fun b hb hG => by rw [List.mem_singleton] at hb; subst hb; exact h.gr hG)⟩
set_option maxRecDepth 100000 in
theorem gone_any (i : Nat) (w : World) (h : RTz w G r most lv cs T) (hi : i < T.length) :
    Calls Tryd.prog 81 #[.pointer (some ⟨r, 0, none⟩), .int .i64 i] w fun e w' => e = .returned (.tuple #[]) ∧ ∃ lv', RTz w' G r most lv' (cs.eraseIdx i) (T.eraseIdx i) ∧ Kp [r] w w' ∧ ∀ b, lv'.ownBlock = some b → w.heap.size ≤ b := by
  obtain ⟨a, c, v1, v2, hlv, hs1, hr1, hs2, hr2⟩ := h.cuts hi
  have hc := h.c0
  rw [hlv] at hc
  have HR := Lib.hid h
  have HR1 := Lib.hid hr1
  have HR2 := Lib.hid hr2
  have HON := Lib.hid h.one
  have HN := Lib.hid h.nat
  have HI := Lib.hid hi
  have hn64 : T.length ≤ 64 := h.nat
  have hrb : r < w.heap.size := (Array.getElem?_eq_some_iff.1 h.hr).1
  obtain ⟨n, hn⟩ : ∃ n, T.length = n := ⟨_, rfl⟩
  have HNN := Lib.hid hn
  rw [hn] at hc hs1 hs2 hi hn64 HR2
  have HO0 : Hid (w.ownsRow w.heap.size 153 6 (.slice none 0 0) 0 []) := Lib.hid (World.ownsRow_nil _ _ _ 6)
  clear h hr1 hr2 hlv hn
  go_enter Tryd.func81, Tryd.ntmps81
  go_upto_region 2 with (first
    | (at_builtin; (refine wpl_app6 rfl (.tmp 5) (.tmp 11) rfl rfl rfl HO0.out HR1.out (fun u hu => HON.out u (by rw [← List.take_append_drop i cs, List.flatten_append]; exact List.mem_append_left _ hu)) (by omega) (Nat.le_refl _) ?_; intro v3 w3 ho3 hg3; have HO3 := Lib.hid ho3; have HK3 : Hid (Kp [] w w3) := Lib.hid (Kp.of_grown0 hg3); clear ho3 hg3))
    | fail)
  have hc3 : w3.cell? ⟨r, 0, none⟩ = some (.slice a n c) := HK3.out.cell_some hc (by simp)
  clear hc
  have HF := Lib.hid (fun (x : World) (k : Kp [] w x) => frozen_of_row x r 0 _ _ (k.heap HR.out.hr (by simp)))
  have HC0 := Lib.hid (fun (x : World) (k : Kp [] w x) => k.cell_some HR.out.c0 (by simp))
  go_wp2_with (first
    | (at_builtin; (refine wpl_app6 rfl (.tmp 14) (.tmp 21) rfl rfl rfl HO3.out (HR2.out.kp0 HK3.out) (fun u hu => HON.out u (by rw [← List.take_append_drop (i + 1) cs, List.flatten_append]; exact List.mem_append_right _ hu)) (by omega) HK3.out.size ?_; intro v4 w4 ho4 hg4; rw [Nat.zero_add] at ho4; obtain ⟨a4, c4, rfl⟩ := row_form ho4; have HO4 := Lib.hid ho4; have HK4 : Hid (Kp [] w w4) := Lib.hid (HK3.out.grown hg4 (fun b hb => .inr (HO3.out.lt b hb).1)); have hf4 := HF.out w4 HK4.out; have hc4 := HC0.out w4 HK4.out; clear ho4 hg4))
    | fail)
  go_end0
  have hm : T.eraseIdx i = T.take i ++ T.drop (i + 1) := List.eraseIdx_eq_take_drop_succ _ _
  have hmc : cs.eraseIdx i = cs.take i ++ cs.drop (i + 1) := List.eraseIdx_eq_take_drop_succ _ _
  have hr4 := HR.out.kp0 HK4.out
  have hlen : (T.eraseIdx i).length = i + (n - (i + 1)) := by rw [List.length_eraseIdx, HNN.out, if_pos hi]; omega
  refine ⟨rfl, .slice a4 (i + (n - (i + 1))) c4, hr4.put (B := w.heap.size) (cs' := cs.eraseIdx i) (T' := T.eraseIdx i) (v' := .slice a4 (i + (n - (i + 1))) c4) (by rw [hlen, hmc, List.flatten_append]; have := HO4.out; rw [List.nil_append] at this; exact this) (fun b hb hG => ?_) (by rw [List.length_eraseIdx, List.length_eraseIdx, HR.out.cl]) (fun j c e hc he => ?_) ?_ ?_, (HK4.out.mono (by simp)).setCell (.inl (by simp)) _, fun b hb => (HO4.out.lt b hb).1⟩
  · have := (HO4.out.lt b hb).1
    have := HR.out.gb b hG
    omega
  · rw [List.getElem?_eraseIdx] at hc he
    split at hc
    · rename_i hj
      rw [if_pos hj] at he
      exact hr4.ce j c e hc he
    · rename_i hj
      rw [if_neg hj] at he
      exact hr4.ce (j + 1) c e hc he
  · exact HR.out.nd.sublist ((List.eraseIdx_sublist T i).map Ent.ky)
  · have := HR.out.len
    have hnn := HNN.out
    rw [hlen]
    omega
end
end Go.Proofs.YtkceaepbjdfccaaDoor
/-
letheref26: (*Tray).Missing, Take.
-/
namespace Go.Proofs.YtkceaepbjdfccaaDoor
open Go.RowKit
theorem whole_miss (ps : List (Option (List UInt8))) : (ps.map (·.isSome)).all (·) = decide ((missL ps).length = 0) := by
  rw [Bool.eq_iff_iff, List.all_eq_true, decide_eq_true_iff]
  unfold missL missT
  rw [List.length_eq_zero_iff, List.filter_eq_nil_iff]
  constructor
  · intro h i hi
    rw [List.mem_range] at hi
    have := h (ps[i]).isSome (List.mem_map.2 ⟨ps[i], List.getElem_mem hi, rfl⟩)
    rw [List.getD, List.getElem?_eq_getElem hi]
    cases hp : ps[i] with
    | none => rw [hp] at this; cases this
    | some c => simp
  · intro h b hb
    obtain ⟨o, ho, rfl⟩ := List.mem_map.1 hb
    obtain ⟨i, hi, rfl⟩ := List.getElem_of_mem ho
    have := h i (List.mem_range.2 hi)
    rw [List.getD, List.getElem?_eq_getElem hi] at this
    cases hp : ps[i] with
    | none => rw [hp] at this; simp at this
    | some c => rfl
theorem filter_erase : ∀ (T : List Ent) (k : Ky) (i : Nat) (e : Ent), (T.map Ent.ky).Nodup → T[i]? = some e → e.ky = k → T.filter (fun e => e.ky != k) = T.eraseIdx i
  | [], _, _, _, _, h, _ => by simp at h
  | a :: T, k, 0, e, nd, h, he => by
    obtain rfl : a = e := by simpa using h
    subst he
    rw [List.map_cons, List.nodup_cons] at nd
    rw [List.filter_cons_of_neg (by simp), List.eraseIdx_cons_zero]
    refine List.filter_eq_self.2 (fun x hx => ?_)
    have : x.ky ≠ a.ky := fun hh => nd.1 (by rw [← hh]; exact List.mem_map_of_mem hx)
    simpa using this
  | a :: T, k, i + 1, e, nd, h, he => by
    rw [List.map_cons, List.nodup_cons] at nd
    have hx : e ∈ T := List.mem_of_getElem? (show T[i]? = some e by simpa using h)
    have : a.ky ≠ k := fun hh => nd.1 (by rw [hh, ← he]; exact List.mem_map_of_mem hx)
    rw [List.filter_cons_of_pos (by simpa using this), List.eraseIdx_cons_succ, filter_erase T k i e nd.2 (by simpa using h) he]
section
variable {W W' : World} {G : Nat → Prop} {r : Nat} {most : Int} {lv : Value} {cs : List (List Value)} {T : List Ent}
set_option maxRecDepth 100000 in
theorem rmissing_any (p : List UInt8) (id : Int) (w : World) (h : RTz w G r most lv cs T) (hp : p.length ≤ 140737488351232) :
    Calls Tryd.prog 56 #[.pointer (some ⟨r, 0, none⟩), .string (strOf p), .int .u32 id] w fun e w' => ∃ v, e = .returned (.tuple #[v, .int .i64 (missP T (p, id)).2]) ∧ Own w' w.heap.size 3 v (nv (missP T (p, id)).1) ∧ Kp [] w w' := by
  have HNM := Lib.hid (rnamed_any (strOf p) w (by rw [strOf_size]; exact hp))
  rw [strOf_size] at HNM
  have HR := Lib.hid h
  by_cases hpe : peerErr p.length = 0
  · have HM : Hid (missP T (p, id) = match findE T (p, id) with | none => ([], 201) | some e => (missL e.parts, 0)) := Lib.hid (by unfold missP; rw [if_neg (by simp [hpe])]; cases findE T (p, id) <;> rfl)
    have hd : decide (peerErr p.length = 0) = true := decide_eq_true hpe
    rw [hd] at HNM
    clear hd hpe
    rcases findAt_or T (p, id) with ⟨hf, he⟩ | ⟨i, e, hf, hi, _, he⟩
    · have HF := Lib.hid (find_any p id (-1) w h hf)
      have HM2 : Hid (missP T (p, id) = ([], 201)) := Lib.hid (by rw [HM.out, he])
      clear h hf he
      rw [HM2.out]
      generalize strOf p = sp at *
      go_enter Tryd.func56, Tryd.ntmps56
      go_wp2_with (first
        | (go_at_call 74; go_must (refine HNM.out.mono ?_; rintro e w1 ⟨rfl, rfl⟩))
        | (go_at_call 76; go_must (refine HF.out.mono ?_; rintro e w1 ⟨rfl, rfl⟩))
        | fail)
      go_ret2
      exact ⟨_, rfl, Own.nil _ _ _, Kp.refl _ _⟩
    · have HF := Lib.hid (find_any p id (i : Int) w h hf)
      have HM2 : Hid (missP T (p, id) = (missL e.parts, 0)) := Lib.hid (by rw [HM.out, he])
      obtain ⟨lb, lc, iv, tv, hlv, _, hrg, _, hre, _, _⟩ := h.at hi
      have hil := (List.getElem?_eq_some_iff.1 hi).1
      obtain ⟨ai, ci, hiv⟩ := hre.i.form
      rw [show (bls e.parts).length = e.parts.length by simp [bls]] at hiv
      subst hiv
      have hc0 := h.c0
      rw [hlv] at hc0
      have hq2 : w.cell? ⟨lb, i * 6 + 2, none⟩ = some (.int .i64 (e.parts.length : Int)) := range6 hrg (j := 2) rfl
      have hq4 : w.cell? ⟨lb, i * 6 + 4, none⟩ = some (.slice ai e.parts.length ci) := range6 hrg (j := 4) rfl
      have HIN := Lib.hid hre.i
      have HPN := Lib.hid hre.n1
      have HC := Lib.hid (And.intro hc0 (And.intro hq2 hq4))
      have hn64 := h.nat
      rw [HM2.out]
      obtain ⟨ps, hps⟩ : ∃ ps, e.parts = ps := ⟨_, rfl⟩
      rw [hps] at HIN HPN HC ⊢
      obtain ⟨m, hm⟩ : ∃ m, ps.length = m := ⟨_, rfl⟩
      have HMM := Lib.hid hm
      rw [hm] at HPN HC
      have HIN2 : Hid (Rd w (.slice ai m ci) (bls ps)) := Lib.hid (by have := HIN.out; rw [hm] at this; exact this)
      obtain ⟨n, hn⟩ : ∃ n, T.length = n := ⟨_, rfl⟩
      rw [hn] at HC hil hn64
      have hilI : (i : Int) < (n : Int) := by omega
      have hm1 : 1 ≤ m := HPN.out.1
      have hm64 : m ≤ 64 := HPN.out.2
      clear h hf he hre hrg hc0 hq2 hq4 hlv hi hm hn hps HIN
      generalize strOf p = sp at *
      go_enter Tryd.func56, Tryd.ntmps56
      go_wp2_with (first
        | (go_at_call 74; go_must (refine HNM.out.mono ?_; rintro e w1 ⟨rfl, rfl⟩))
        | (go_at_call 76; go_must (refine HF.out.mono ?_; rintro e w1 ⟨rfl, rfl⟩))
        | fail)
      go_loopw [9, 10] (fun v i wr => ∃ k : Nat, k ≤ m ∧ i = .int .i64 k ∧ Hid (Kp [] w wr ∧ Own wr w.heap.size 3 v (nv (missT ps k)))) (fun _ i _ => m - (intOf i).toNat)
      case atStart => exact ⟨0, Nat.zero_le _, rfl, Lib.hid ⟨Kp.refl [] w, Own.nil _ _ _⟩⟩
      case round =>
        obtain ⟨k, hk, rfl, HA⟩ := hrel
        have hc0 := HA.out.1.cell_some HC.out.1 (by simp)
        have hq2 := HA.out.1.cell_some HC.out.2.1 (by simp)
        have hq4 := HA.out.1.cell_some HC.out.2.2 (by simp)
        by_cases hlt : k < m
        · have hkl : k < ps.length := by rw [HMM.out]; exact hlt
          have hpk : ps[k]? = some ps[k] := List.getElem?_eq_getElem hkl
          obtain ⟨b, off, rfl, hx, hcc⟩ := (HIN2.out.kp0 HA.out.1).at (k := k) hlt
          have hcc2 : wr.cell? ⟨b, off + k, none⟩ = some (.bool ps[k].isSome) := by rw [hcc]; simp [bls]
          have hkI : (k : Int) < (m : Int) := by omega
          have HLE : Hid ((nv (missT ps k)).length ≤ 64) := Lib.hid (by rw [nv_len]; have := missT_len ps k; omega)
          clear hcc hx
          cases hb : ps[k] with
          | none =>
            rw [hb] at hcc2 hpk
            have HT : Hid (nv (missT ps (k + 1)) = nv (missT ps k) ++ [.int .i64 (k : Int)]) := Lib.hid (by rw [missT_none hpk]; simp [nv])
            have hcc3 : wr.cell? ⟨b, off + k, none⟩ = some (.bool false) := hcc2
            clear hcc2 hpk hb
            go_wp2_with (first
              | (at_builtin; (refine wpl_append el_int rfl (.tmp 44) (.tmp 46) rfl rfl rfl (HA.out.2.kp0 ((Kp.refl [] wr).alloc _)) (rd_lit1 wr 3 _) (by simp [Value.oneCell']) (by have := HLE.out; simp; omega) (by have := HLE.out; simp; omega) (Nat.le_trans HA.out.1.size (by simp)) ?_; intro v2 w2 ho2 hg2; have HO2 : Hid (Own w2 w.heap.size 3 v2 (nv (missT ps (k + 1)))) := Lib.hid (by rw [HT.out]; exact ho2); have HK2 : Hid (Kp [] w w2) := Lib.hid ((HA.out.1.alloc _).grown hg2 (fun b hb => .inr (HA.out.2.lt hb).1)); clear ho2 hg2))
              | fail)
            go_roundw
            case rel => exact ⟨k + 1, by omega, by go_num, Lib.hid ⟨HK2.out, HO2.out⟩⟩
            case measure => simp [intOf]; omega
          | some c =>
            rw [hb] at hcc2 hpk
            have HT : Hid (missT ps (k + 1) = missT ps k) := Lib.hid (missT_some hpk)
            have hcc3 : wr.cell? ⟨b, off + k, none⟩ = some (.bool true) := hcc2
            clear hcc2 hpk hb
            go_wp2_with fail
            go_roundw
            case rel => exact ⟨k + 1, by omega, by go_num, Lib.hid ⟨HA.out.1, by rw [HT.out]; exact HA.out.2⟩⟩
            case measure => simp [intOf]; omega
        · obtain rfl : m = k := by omega
          have hkI : ¬ (m : Int) < (m : Int) := by omega
          go_wp2_with fail
          go_ret2
          exact ⟨_, rfl, by have h1 := HA.out.2; unfold missL; rw [HMM.out]; exact h1, HA.out.1⟩
  · have HM : Hid (missP T (p, id) = ([], 212)) := Lib.hid (by unfold missP; rw [if_pos hpe])
    have hd : decide (peerErr p.length = 0) = false := decide_eq_false hpe
    rw [hd] at HNM
    rw [HM.out]
    clear hd hpe h
    generalize strOf p = sp at *
    go_enter Tryd.func56, Tryd.ntmps56
    go_wp2_with (first
      | (go_at_call 74; go_must (refine HNM.out.mono ?_; rintro e w1 ⟨rfl, rfl⟩))
      | fail)
    go_ret2
    exact ⟨_, rfl, Own.nil _ _ _, Kp.refl _ _⟩
end
end Go.Proofs.YtkceaepbjdfccaaDoor
/-
letheref26: (*Tray).Take, Drop.
-/
namespace Go.Proofs.YtkceaepbjdfccaaDoor
open Go.RowKit
/-- a parcel as a value -/
def pagg (s1 : ByteArray) (id N : Int) (s2 : ByteArray) (iv tv : Value) : Value := .agg #[.string s1, .int .u32 id, .int .i64 N, .string s2, iv, tv]
section
variable {w : World} {G : Nat → Prop} {ps : List (Option (List UInt8))} {iv tv : Value}
theorem rwhole_e (s1 s2 : ByteArray) (id N : Int) (h : RPc w G ps iv tv) :
    Calls Tryd.prog 78 #[.agg #[.string s1, .int .u32 id, .int .i64 N, .string s2, iv, tv]] w fun e w' => e = .returned (.bool (decide ((missL ps).length = 0))) ∧ Kp [] w w' := by
  obtain ⟨ai, ci, rfl⟩ := h.i.form
  obtain ⟨vals, hv, _⟩ := h.t
  obtain ⟨at_, ct, rfl⟩ := hv.form
  rw [← whole_miss]
  exact rwhole_any s1 s2 id N ai at_ _ ci _ ct (ps.map (·.isSome)) w (by rw [List.map_map]; exact h.i) (by rw [List.length_map]; exact h.n1.2)
theorem rtext_e (s1 s2 : ByteArray) (id N : Int) (h : RPc w G ps iv tv) :
    Calls Tryd.prog 80 #[.agg #[.string s1, .int .u32 id, .int .i64 N, .string s2, iv, tv]] w fun e w' => ∃ v, e = .returned v ∧ Own w' w.heap.size 5 v (bv (textL ps)) ∧ Kp [] w w' := by
  obtain ⟨ai, ci, rfl⟩ := h.i.form
  obtain ⟨at_, ct, rfl⟩ := h.rdd.form
  exact rtext_any s1 s2 id N ai at_ _ ci _ ct (cts ps) w h.rdd (by unfold cts; rw [List.length_map]; exact h.n1.2) (fun l hl => Nat.le_trans (h.c5 l hl) (by decide))
end
theorem range_kp {w w' : World} {lb o : Nat} {c : List Value} (h : w.rangeAt lb o c) (k : Kp [] w w') : w'.rangeAt lb o c := fun j v hj => k.cell_some (h j v hj) (by simp)
section
variable {G : Nat → Prop} {r : Nat} {most : Int} {lv : Value} {cs : List (List Value)} {T : List Ent}
set_option maxRecDepth 100000 in
theorem rtake_any (p : List UInt8) (id : Int) (w : World) (h : RTz w G r most lv cs T) (hp : p.length ≤ 140737488351232) :
    Calls Tryd.prog 55 #[.pointer (some ⟨r, 0, none⟩), .string (strOf p), .int .u32 id] w fun e w' => ∃ v lv' cs', e = .returned (.tuple #[v, .int .i64 (takeP T (p, id)).1.2]) ∧ Own w' w.heap.size 5 v (bv (takeP T (p, id)).1.1) ∧ RTz w' G r most lv' cs' (takeP T (p, id)).2 ∧ Kp [r] w w' ∧ ∀ b, lv'.ownBlock = some b → lv.ownBlock = some b ∨ w.heap.size ≤ b := by
  have HNM := Lib.hid (rnamed_any (strOf p) w (by rw [strOf_size]; exact hp))
  rw [strOf_size] at HNM
  have HR := Lib.hid h
  by_cases hpe : peerErr p.length = 0
  · have HM : Hid (takeP T (p, id) = match findE T (p, id) with | none => (([], 201), T) | some e => if 0 < (missL e.parts).length then (([], 261), T) else ((textL e.parts, 0), T.filter fun e => e.ky != (p, id))) := Lib.hid (by unfold takeP; rw [if_neg (by simp [hpe])]; cases findE T (p, id) <;> rfl)
    have hd : decide (peerErr p.length = 0) = true := decide_eq_true hpe
    rw [hd] at HNM
    clear hd hpe
    rcases findAt_or T (p, id) with ⟨hf, he⟩ | ⟨i, e, hf, hi, hek, he⟩
    · have HF := Lib.hid (find_any p id (-1) w h hf)
      have HM2 : Hid (takeP T (p, id) = (([], 201), T)) := Lib.hid (by rw [HM.out, he])
      clear h hf he
      rw [HM2.out]
      generalize strOf p = sp at *
      go_enter Tryd.func55, Tryd.ntmps55
      go_wp2_with (first
        | (go_at_call 74; go_must (refine HNM.out.mono ?_; rintro e w1 ⟨rfl, rfl⟩))
        | (go_at_call 76; go_must (refine HF.out.mono ?_; rintro e w1 ⟨rfl, rfl⟩))
        | fail)
      go_ret2
      exact ⟨_, lv, cs, rfl, Own.nil _ _ _, HR.out, Kp.refl _ _, fun b hb => .inl hb⟩
    · have HF := Lib.hid (find_any p id (i : Int) w h hf)
      obtain ⟨lb, lc, iv, tv, hlv, _, hrg, _, hre, _, _⟩ := h.at hi
      have hil := (List.getElem?_eq_some_iff.1 hi).1
      have hc0 := h.c0
      rw [hlv] at hc0
      have HRG : Hid (∀ X, Kp [] w X → X.rangeAt lb (i * 6) [.string (strOf e.peer), .int .u32 e.id, .int .i64 (e.parts.length : Int), .string (strOf e.sum), iv, tv]) := Lib.hid (fun X k => range_kp hrg k)
      have HRE := Lib.hid hre
      have HWH := Lib.hid (fun X (k : Kp [] w X) => rwhole_e (strOf e.peer) (strOf e.sum) e.id (e.parts.length : Int) (hre.kp k (by simp)))
      have HTX := Lib.hid (fun X (k : Kp [] w X) => rtext_e (strOf e.peer) (strOf e.sum) e.id (e.parts.length : Int) (hre.kp k (by simp)))
      have HC0 := Lib.hid (fun X (k : Kp [] w X) => k.cell_some hc0 (by simp))
      have hn64 := h.nat
      have HFE := Lib.hid (filter_erase T (p, id) i e h.nd hi hek)
      have HRB : Hid (r < w.heap.size) := Lib.hid (Array.getElem?_eq_some_iff.1 h.hr).1
      obtain ⟨n, hn⟩ : ∃ n, T.length = n := ⟨_, rfl⟩
      have HNN := Lib.hid hn
      have HGO := Lib.hid (fun X (k : Kp [] w X) => gone_any i X (h.kp0 k) hil)
      rw [hn] at HC0 hil hn64
      have hilI : (i : Int) < (n : Int) := by omega
      have hi0 : ¬ (i : Int) < 0 := by omega
      have hcw := HC0.out w (Kp.refl _ _)
      by_cases hz : (missL e.parts).length = 0
      · have hd : decide ((missL e.parts).length = 0) = true := decide_eq_true hz
        have HM2 : Hid (takeP T (p, id) = ((textL e.parts, 0), T.eraseIdx i)) := Lib.hid (by rw [HM.out, he]; simp only; rw [if_neg (by omega), HFE.out])
        rw [hd] at HWH
        clear h hf he hre hrg hc0 hlv hi hn hz hd
        rw [HM2.out]
        generalize strOf e.peer = z1 at *
        generalize strOf e.sum = z2 at *
        generalize e.id = z3 at *
        generalize (e.parts.length : Int) = z4 at *
        generalize strOf p = sp at *
        go_enter Tryd.func55, Tryd.ntmps55
        go_wp2_with (first
          | (go_at_call 74; go_must (refine HNM.out.mono ?_; rintro e w1 ⟨rfl, rfl⟩))
          | (go_at_call 76; go_must (refine HF.out.mono ?_; rintro e w1 ⟨rfl, rfl⟩))
          | ((with_reducible refine wpList_load_mid ?b1 153 (.tmp 33) ?b2 lb (i * 6) ?b3 [.string z1, .int .u32 z3, .int .i64 z4, .string z2, iv, tv] ?b4 ?b5 ?b6 ?b7 ?b8 ?b9); (case b1 => rfl); (case b2 => rfl); (case b3 => rfl); (case b5 => exact HRG.out _ HK2.out); (case b6 => exact Tryd.underlying153); (case b7 => rfl); (case b8 => kernel_rfl))
          | ((with_reducible refine wpList_load_mid ?c1 153 (.tmp 24) ?c2 lb (i * 6) ?c3 [.string z1, .int .u32 z3, .int .i64 z4, .string z2, iv, tv] ?c4 ?c5 ?c6 ?c7 ?c8 ?c9); (case c1 => rfl); (case c2 => rfl); (case c3 => rfl); (case c5 => exact HRG.out _ (Kp.refl _ _)); (case c6 => exact Tryd.underlying153); (case c7 => rfl); (case c8 => kernel_rfl))
          | (go_at_call 78; go_must (refine (HWH.out w (Kp.refl _ _)).mono ?_; rintro e w2 ⟨rfl, hk2⟩; have HK2 := Lib.hid hk2; have hc2 := HC0.out w2 hk2; clear hk2))
          | (go_at_call 80; go_must (refine (HTX.out w2 HK2.out).mono ?_; rintro e w3 ⟨v3, rfl, ho3, hk3⟩; have HK3 := Lib.hid (HK2.out.trans0 hk3); have HO3 := Lib.hid ho3; clear hk3 ho3))
          | (go_at_call 81; go_must (refine (HGO.out w3 HK3.out).mono ?_; rintro e w4 ⟨rfl, lv4, hr4, hk4, hb4⟩; have HR4 := Lib.hid hr4; have HK4 := Lib.hid hk4; have HB4 := Lib.hid hb4; clear hr4 hk4 hb4))
          | fail)
        go_ret2
        refine ⟨_, lv4, _, rfl, (HO3.out.base HK2.out.size).kp HK4.out (fun b hb hm => ?_), HR4.out, (HK3.out.mono (by simp)).trans HK4.out (fun m hm => .inl hm), fun b hb => .inr (Nat.le_trans HK3.out.size (HB4.out b hb))⟩
        rw [List.mem_singleton] at hm
        subst hm
        have h1 := (HO3.out.lt hb).1
        have h2 := HK2.out.size
        have h3 := HRB.out
        omega
      · have hd : decide ((missL e.parts).length = 0) = false := decide_eq_false hz
        have HM2 : Hid (takeP T (p, id) = (([], 261), T)) := Lib.hid (by rw [HM.out, he]; simp only; rw [if_pos (by omega)])
        rw [hd] at HWH
        clear h hf he hre hrg hc0 hlv hi hn hz hd HGO HTX
        rw [HM2.out]
        generalize strOf e.peer = z1 at *
        generalize strOf e.sum = z2 at *
        generalize e.id = z3 at *
        generalize (e.parts.length : Int) = z4 at *
        generalize strOf p = sp at *
        go_enter Tryd.func55, Tryd.ntmps55
        go_wp2_with (first
          | (go_at_call 74; go_must (refine HNM.out.mono ?_; rintro e w1 ⟨rfl, rfl⟩))
          | (go_at_call 76; go_must (refine HF.out.mono ?_; rintro e w1 ⟨rfl, rfl⟩))
          | ((with_reducible refine wpList_load_mid ?e1 153 (.tmp 24) ?e2 lb (i * 6) ?e3 [.string z1, .int .u32 z3, .int .i64 z4, .string z2, iv, tv] ?e4 ?e5 ?e6 ?e7 ?e8 ?e9); (case e1 => rfl); (case e2 => rfl); (case e3 => rfl); (case e5 => exact HRG.out _ (Kp.refl _ _)); (case e6 => exact Tryd.underlying153); (case e7 => rfl); (case e8 => kernel_rfl))
          | (go_at_call 78; go_must (refine (HWH.out w (Kp.refl _ _)).mono ?_; rintro e w2 ⟨rfl, hk2⟩; have HK2 := Lib.hid hk2; have hc2 := HC0.out w2 hk2; clear hk2))
          | fail)
        go_ret2
        exact ⟨_, lv, cs, rfl, Own.nil _ _ _, HR.out.kp0 HK2.out, HK2.out.mono (by simp), fun b hb => .inl hb⟩
  · have HM : Hid (takeP T (p, id) = (([], 212), T)) := Lib.hid (by unfold takeP; rw [if_pos hpe])
    have hd : decide (peerErr p.length = 0) = false := decide_eq_false hpe
    rw [hd] at HNM
    rw [HM.out]
    clear hd hpe h
    generalize strOf p = sp at *
    go_enter Tryd.func55, Tryd.ntmps55
    go_wp2_with (first
      | (go_at_call 74; go_must (refine HNM.out.mono ?_; rintro e w1 ⟨rfl, rfl⟩))
      | fail)
    go_ret2
    exact ⟨_, lv, cs, rfl, Own.nil _ _ _, HR.out, Kp.refl _ _, fun b hb => .inl hb⟩
/-- the list when Drop's loop stands at j -/
def dropT (T : List Ent) (p : List UInt8) (j : Nat) : List Ent := T.take j ++ dropE (T.drop j) p
theorem dropT_no {T : List Ent} {p : List UInt8} {j : Nat} {e : Ent} (h : T[j]? = some e) (hp : e.peer ≠ p) : dropT T p (j + 1) = dropT T p j := by
  obtain ⟨hj, he⟩ := List.getElem?_eq_some_iff.1 h
  unfold dropT dropE
  rw [List.take_add_one, h, List.drop_eq_getElem_cons hj, he, List.filter_cons_of_pos (by simpa using hp)]
  simp
theorem dropT_yes {T : List Ent} {p : List UInt8} {j : Nat} {e : Ent} (h : T[j]? = some e) (hp : e.peer = p) : (dropT T p (j + 1)).eraseIdx j = dropT T p j ∧ (dropT T p (j + 1)).length = (dropT T p j).length + 1 := by
  obtain ⟨hj, he⟩ := List.getElem?_eq_some_iff.1 h
  have e1 : dropT T p (j + 1) = T.take j ++ (e :: dropE (T.drop (j + 1)) p) := by
    unfold dropT
    rw [List.take_add_one, h]
    simp
  have e2 : dropT T p j = T.take j ++ dropE (T.drop (j + 1)) p := by
    unfold dropT dropE
    rw [List.drop_eq_getElem_cons hj, he, List.filter_cons_of_neg (by simpa using hp)]
  have hl : (T.take j).length = j := by rw [List.length_take]; omega
  constructor
  · rw [e1, e2, List.eraseIdx_append_of_length_le (by omega), hl, Nat.sub_self]
    rfl
  · rw [e1, e2]; simp only [List.length_append, List.length_cons]; omega
theorem dropT_get {T : List Ent} {p : List UInt8} {j : Nat} {e : Ent} (h : T[j]? = some e) : (dropT T p (j + 1))[j]? = some e := by
  obtain ⟨hj, he⟩ := List.getElem?_eq_some_iff.1 h
  unfold dropT
  rw [List.getElem?_append_left (by rw [List.length_take]; omega), List.getElem?_take, if_pos (by omega), h]
set_option maxRecDepth 100000 in
theorem rdrop_any (p : List UInt8) (w : World) (h : RTz w G r most lv cs T) :
    Calls Tryd.prog 57 #[.pointer (some ⟨r, 0, none⟩), .string (strOf p)] w fun e w' => ∃ (n : Nat) (lv' : Value) (cs' : List (List Value)), e = .returned (.int .i64 (n : Int)) ∧ (dropE T p).length + n = T.length ∧ RTz w' G r most lv' cs' (dropE T p) ∧ Kp [r] w w' ∧ ∀ b, lv'.ownBlock = some b → lv.ownBlock = some b ∨ w.heap.size ≤ b := by
  have HR := Lib.hid h
  obtain ⟨a, c, hlv⟩ := h.form
  have hc0 := h.c0
  rw [hlv] at hc0
  obtain ⟨n, hn⟩ : ∃ n, T.length = n := ⟨_, rfl⟩
  have hn64 := h.nat
  have HNN := Lib.hid hn
  rw [hn] at hc0 hn64
  have HRB : Hid (r < w.heap.size) := Lib.hid (Array.getElem?_eq_some_iff.1 h.hr).1
  have HT0 : Hid (dropT T p n = T) := Lib.hid (by unfold dropT dropE; rw [← hn, List.take_length, List.drop_length]; simp)
  have HTE : Hid (dropT T p 0 = dropE T p) := Lib.hid (by unfold dropT; simp)
  obtain ⟨sp, hsp⟩ : ∃ sp, strOf p = sp := ⟨_, rfl⟩
  have HSP := Lib.hid hsp
  rw [hsp]
  clear h hlv hn hsp
  go_enter Tryd.func57, Tryd.ntmps57
  go_wp2_with fail
  go_loopw [5, 6] (fun nv jv wr => ∃ (d j : Nat) (lv' : Value) (cs' : List (List Value)), nv = .int .i64 (d : Int) ∧ jv = .int .i64 ((j : Int) - 1) ∧ j ≤ n ∧ Hid (RTz wr G r most lv' cs' (dropT T p j) ∧ Kp [r] w wr ∧ d + (dropT T p j).length = n ∧ ∀ b, lv'.ownBlock = some b → lv.ownBlock = some b ∨ w.heap.size ≤ b)) (fun _ jv _ => (intOf jv + 1).toNat)
  case atStart => exact ⟨0, n, lv, cs, rfl, rfl, Nat.le_refl _, Lib.hid ⟨by rw [HT0.out]; exact HR.out, Kp.refl _ _, by rw [HT0.out, HNN.out]; omega, fun b hb => .inl hb⟩⟩
  case round =>
    obtain ⟨d, j, lv', cs', rfl, rfl, hj, HA⟩ := hrel
    have hd : d ≤ 64 := by have := HA.out.2.2.1; omega
    by_cases hz : j = 0
    · subst hz
      go_wp2_with fail
      go_ret
      refine ⟨d, lv', cs', rfl, ?_, ?_, HA.out.2.1, HA.out.2.2.2⟩
      · have h1 := HA.out.2.2.1
        rw [HTE.out] at h1
        rw [HNN.out]
        omega
      · have h1 := HA.out.1
        rw [HTE.out] at h1
        exact h1
    · obtain ⟨k, rfl⟩ : ∃ k, j = k + 1 := ⟨j - 1, by omega⟩
      have hkl : k < T.length := by rw [HNN.out]; omega
      obtain ⟨e, hke⟩ : ∃ e, T[k]? = some e := ⟨_, List.getElem?_eq_getElem hkl⟩
      obtain ⟨lb, lc, iv, tv, hl1, _, hrg, _, _, _, _⟩ := HA.out.1.at (dropT_get (p := p) hke)
      have hq0 : wr.cell? ⟨lb, k * 6, none⟩ = some (.string (strOf e.peer)) := range6 hrg (j := 0) rfl
      have hc0 := HA.out.1.c0
      rw [hl1] at hc0
      obtain ⟨m, hm⟩ : ∃ m, (dropT T p (k + 1)).length = m := ⟨_, rfl⟩
      have HM := Lib.hid hm
      have hkm : k < m := by rw [← hm]; exact (List.getElem?_eq_some_iff.1 (dropT_get (p := p) hke)).1
      have hm64 : m ≤ 64 := by rw [← hm]; exact HA.out.1.nat
      rw [hm] at hc0
      have hpe := strOf_beq e.peer p
      rw [HSP.out] at hpe
      have HKE := Lib.hid hke
      have hk1 : ((k + 1 : Nat) : Int) - 1 = (k : Int) := by omega
      rw [hk1]
      clear hk1 hrg hl1 hm hke
      by_cases hp : e.peer = p
      · have hq : ((strOf e.peer).toList == sp.toList) = true := by rw [hpe]; simp [hp]
        have HGO := Lib.hid (gone_any k wr HA.out.1 (by rw [HM.out]; exact hkm))
        have HY := Lib.hid (dropT_yes HKE.out hp)
        clear hp hpe
        generalize strOf e.peer = s1 at *
        go_wp2_with (first
          | (go_at_call 81; go_must (refine HGO.out.mono ?_; rintro e w4 ⟨rfl, lv4, hr4, hk4, hb4⟩; have HR4 := Lib.hid hr4; have HK4 := Lib.hid hk4; have HB4 := Lib.hid hb4; clear hr4 hk4 hb4))
          | fail)
        go_roundw
        case rel => exact ⟨d + 1, k, lv4, _, by go_num, rfl, by omega, Lib.hid ⟨by have := HR4.out; rw [HY.out.1] at this; exact this, HA.out.2.1.trans HK4.out (fun m hm => .inl hm), by have h1 := HA.out.2.2.1; have h2 := HY.out.2; omega, fun b hb => .inr (Nat.le_trans HA.out.2.1.size (HB4.out b hb))⟩⟩
        case measure => simp [intOf]
      · have hq : ((strOf e.peer).toList == sp.toList) = false := by rw [hpe]; simp [hp]
        have HY := Lib.hid (dropT_no HKE.out hp)
        clear hp hpe
        generalize strOf e.peer = s1 at *
        go_wp2_with fail
        go_roundw
        case rel => exact ⟨d, k, lv', cs', rfl, rfl, by omega, Lib.hid (by rw [← HY.out]; exact HA.out)⟩
        case measure => simp [intOf]
end
end Go.Proofs.YtkceaepbjdfccaaDoor
/-
letheref26: (Parcel).twin.
-/
namespace Go.Proofs.YtkceaepbjdfccaaDoor
open Go.RowKit
theorem bls_len (ps : List (Option (List UInt8))) : (bls ps).length = ps.length := by simp [bls]
theorem Own.some {w : World} {B : Nat} {e : TypeId} {v : Value} {xs : List Value} (h : Own w B e v xs) (hn : 0 < xs.length) : ∃ g c, v = .slice (some ⟨g, 0, none⟩) xs.length c := by
  rcases h.2 with ⟨_, h2⟩ | ⟨g, cap, cur, hv, _⟩
  · omega
  · exact ⟨g, cap, hv⟩
set_option maxRecDepth 100000 in
theorem rtwin_any (s1 s2 : ByteArray) (id N : Int) (G : Nat → Prop) (ps : List (Option (List UInt8))) (iv tv : Value) (w : World) (h : RPc w G ps iv tv) :
    Calls Tryd.prog 77 #[.agg #[.string s1, .int .u32 id, .int .i64 N, .string s2, iv, tv]] w fun e w' => ∃ (gi gt ci ct : Nat) (vals : List Value), e = .returned (.agg #[.string s1, .int .u32 id, .int .i64 N, .string s2, .slice (some ⟨gi, 0, none⟩) ps.length ci, .slice (some ⟨gt, 0, none⟩) ps.length ct]) ∧
      Own w' w.heap.size 4 (.slice (some ⟨gi, 0, none⟩) ps.length ci) (bls ps) ∧ Own w' w.heap.size 27 (.slice (some ⟨gt, 0, none⟩) ps.length ct) vals ∧ vals.length = ps.length ∧ (∀ u ∈ vals, u.oneCell' = true) ∧ (∀ (j : Nat) (x : Value) (c : List UInt8), vals[j]? = some x → (cts ps)[j]? = some c → Rd w x (bv c) ∧ ∀ b, x.ownBlock = some b → G b) ∧ Kp [] w w' := by
  obtain ⟨ai, ci, hiv⟩ := h.i.form
  rw [bls_len] at hiv
  subst hiv
  obtain ⟨vals, hv1, hv2, hv3, hv4⟩ := h.t
  obtain ⟨at_, ct, htv⟩ := hv1.form
  rw [hv2] at htv
  subst htv
  have HI := Lib.hid h.i
  have HT := Lib.hid hv1
  have HV2 := Lib.hid hv2
  have HV3 := Lib.hid hv3
  have HV4 := Lib.hid hv4
  have HN1 := Lib.hid h.n1
  have HB1 : Hid (∀ u ∈ bls ps, u.oneCell' = true) := Lib.hid (fun u hu => by obtain ⟨o, _, rfl⟩ := List.mem_map.1 hu; rfl)
  have HBL := Lib.hid (bls_len ps)
  generalize bls ps = bl at *
  obtain ⟨n, hn⟩ : ∃ n, ps.length = n := ⟨_, rfl⟩
  have HN := Lib.hid hn
  rw [hn] at HI HT HV2 HN1 HBL ⊢
  clear h hv1 hv2 hv3 hv4 hn
  have hn1 := HN1.out.1
  have hn2 := HN1.out.2
  go_enter Tryd.func77, Tryd.ntmps77
  go_upto_region 3 with fail
  obtain ⟨w2, hw2⟩ : ∃ w2, (w.alloc (.cells #[.string s1, .int .u32 id, .int .i64 N, .string s2, .slice ai n ci, .slice at_ n ct] 153)).alloc (.cells #[.string ⟨#[]⟩, .int .u32 0, .int .i64 0, .string ⟨#[]⟩, .slice none 0 0, .slice none 0 0] 153) = w2 := ⟨_, rfl⟩
  have HK2 : Hid (Kp [] w w2) := Lib.hid (by rw [← hw2]; exact ((Kp.refl [] w).alloc _).alloc _)
  have HB2 : Hid (w2.heap[w.heap.size]? = some (.cells #[.string s1, .int .u32 id, .int .i64 N, .string s2, .slice ai n ci, .slice at_ n ct] 153 (0, 0))) := Lib.hid (by rw [← hw2]; exact hp_old (by simp) (heap_alloc_new w _))
  have HC2 : Hid (w2.heap[w.heap.size + 1]? = some (.cells #[.string ⟨#[]⟩, .int .u32 0, .int .i64 0, .string ⟨#[]⟩, .slice none 0 0, .slice none 0 0] 153 (0, 0))) := Lib.hid (by rw [← hw2]; exact hp_new (by simp))
  rw [hw2]
  clear hw2
  have hc4 : w2.cell? ⟨w.heap.size, 4, none⟩ = some (.slice ai n ci) := by rw [cell_of_row _ _ 4 _ _ _ HB2.out]; rfl
  go_upto_region 4 with (first
    | (at_builtin; (refine wpl_append el_bool rfl (.tmp 5) (.tmp 7) rfl rfl rfl (Own.nil w2 w2.heap.size _) (HI.out.kp0 HK2.out) HB1.out (by rw [HBL.out]; simp; omega) (by rw [HBL.out]; simp; omega) (Nat.le_refl _) ?_; intro v3 w3 ho3 hg3; rw [List.nil_append] at ho3; obtain ⟨gi, c3, hv3⟩ := ho3.some (by rw [HBL.out]; omega); rw [HBL.out] at hv3; subst hv3; have HO3 := Lib.hid ho3; have HK3 : Hid (Kp [] w2 w3) := Lib.hid (Kp.of_grown0 hg3); have hc3 := HK3.out.cell_some hc4 (by simp); have hf3 := frozen_of_row w3 w.heap.size 4 _ _ (HK3.out.heap HB2.out (by simp)); clear ho3 hg3))
    | fail)
  clear hc4 hc3 hf3
  obtain ⟨w4, hw4⟩ : ∃ w4, w3.setCell ⟨w.heap.size, 4, none⟩ (.slice (some ⟨gi, 0, none⟩) n c3) = w4 := ⟨_, rfl⟩
  have k34 : Kp [w.heap.size] w3 w4 := by rw [← hw4]; exact (Kp.refl _ w3).setCell (.inl (by simp)) _
  have HB4 : Hid (w4.heap[w.heap.size]? = some (.cells #[.string s1, .int .u32 id, .int .i64 N, .string s2, .slice (some ⟨gi, 0, none⟩) n c3, .slice at_ n ct] 153 (0, 0))) := Lib.hid (by rw [← hw4]; exact heap_setCell_same w3 _ 4 _ _ _ (HK3.out.heap HB2.out (by simp)))
  have HC4 : Hid (w4.heap[w.heap.size + 1]? = some (.cells #[.string ⟨#[]⟩, .int .u32 0, .int .i64 0, .string ⟨#[]⟩, .slice none 0 0, .slice none 0 0] 153 (0, 0))) := Lib.hid (k34.heap (HK3.out.heap HC2.out (by simp)) (by simp))
  have HO4 := Lib.hid (HO3.out.kp k34 (fun b hb hm => by rw [List.mem_singleton] at hm; subst hm; exact HO3.out.not_at (HK3.out.heap HB2.out (by simp)) (by decide) hb))
  have HK4 : Hid (Kp [] w w4) := Lib.hid ((HK2.out.trans0 HK3.out).trans k34 (fun m hm => by rw [List.mem_singleton] at hm; subst hm; exact .inr (Nat.le_refl _)))
  have HS4 : Hid (w2.heap.size ≤ w4.heap.size) := Lib.hid (Nat.le_trans HK3.out.size k34.size)
  rw [hw4]
  clear hw4 k34 HO3 HK3 HB2 HC2
  have hc5 : w4.cell? ⟨w.heap.size, 5, none⟩ = some (.slice at_ n ct) := by rw [cell_of_row _ _ 5 _ _ _ HB4.out]; rfl
  go_upto_region 5 with (first
    | (at_builtin; (refine wpl_append el_byts rfl (.tmp 10) (.tmp 12) rfl rfl rfl (Own.nil w4 w4.heap.size _) (HT.out.kp0 HK4.out) HV3.out (by rw [HV2.out]; simp; omega) (by rw [HV2.out]; simp; omega) (Nat.le_refl _) ?_; intro v5 w5 ho5 hg5; rw [List.nil_append] at ho5; obtain ⟨gt, c5, hv5⟩ := ho5.some (by rw [HV2.out]; omega); rw [HV2.out] at hv5; subst hv5; have HO5 := Lib.hid ho5; have HK5 : Hid (Kp [] w4 w5) := Lib.hid (Kp.of_grown0 hg5); have hc6 := HK5.out.cell_some hc5 (by simp); have hf5 := frozen_of_row w5 w.heap.size 5 _ _ (HK5.out.heap HB4.out (by simp)); clear ho5 hg5))
    | fail)
  clear hc5 hc6 hf5
  obtain ⟨w6, hw6⟩ : ∃ w6, w5.setCell ⟨w.heap.size, 5, none⟩ (.slice (some ⟨gt, 0, none⟩) n c5) = w6 := ⟨_, rfl⟩
  have k56 : Kp [w.heap.size] w5 w6 := by rw [← hw6]; exact (Kp.refl _ w5).setCell (.inl (by simp)) _
  have HB6 : Hid (w6.heap[w.heap.size]? = some (.cells #[.string s1, .int .u32 id, .int .i64 N, .string s2, .slice (some ⟨gi, 0, none⟩) n c3, .slice (some ⟨gt, 0, none⟩) n c5] 153 (0, 0))) := Lib.hid (by rw [← hw6]; exact heap_setCell_same w5 _ 5 _ _ _ (HK5.out.heap HB4.out (by simp)))
  have HC6 : Hid (w6.heap[w.heap.size + 1]? = some (.cells #[.string ⟨#[]⟩, .int .u32 0, .int .i64 0, .string ⟨#[]⟩, .slice none 0 0, .slice none 0 0] 153 (0, 0))) := Lib.hid (k56.heap (HK5.out.heap HC4.out (by simp)) (by simp))
  have HO6 := Lib.hid (HO5.out.kp k56 (fun b hb hm => by rw [List.mem_singleton] at hm; subst hm; exact HO5.out.not_at (HK5.out.heap HB4.out (by simp)) (by decide) hb))
  have HO46 := Lib.hid ((HO4.out.kp0 HK5.out).kp k56 (fun b hb hm => by rw [List.mem_singleton] at hm; subst hm; exact (HO4.out.kp0 HK5.out).not_at (HK5.out.heap HB4.out (by simp)) (by decide) hb))
  have HK6 : Hid (Kp [] w w6) := Lib.hid ((HK4.out.trans0 HK5.out).trans k56 (fun m hm => by rw [List.mem_singleton] at hm; subst hm; exact .inr (Nat.le_refl _)))
  rw [hw6]
  clear hw6 k56 HO5 HB4 HC4
  go_wp2_with (first
    | ((with_reducible refine wpList_load_row ?a1 153 (.tmp 1) ?a2 w.heap.size ?a3 153 #[.string s1, .int .u32 id, .int .i64 N, .string s2, .slice (some ⟨gi, 0, none⟩) n c3, .slice (some ⟨gt, 0, none⟩) n c5] (0, 0) ?a4 ?a5 ?a6 ?a7 ?a8 ?a9); (case a1 => rfl); (case a2 => rfl); (case a3 => rfl); (case a5 => exact HB6.out); (case a6 => exact Tryd.underlying153); (case a7 => rfl); (case a8 => kernel_rfl))
    | ((with_reducible refine wpList_store_row ?b1 153 (.tmp 2) (.tmp 15) ?b2 (w.heap.size + 1) #[.string s1, .int .u32 id, .int .i64 N, .string s2, .slice (some ⟨gi, 0, none⟩) n c3, .slice (some ⟨gt, 0, none⟩) n c5] ?b3 ?b4 153 #[.string ⟨#[]⟩, .int .u32 0, .int .i64 0, .string ⟨#[]⟩, .slice none 0 0, .slice none 0 0] ?b5 ?b6 ?b7 ?b8 ?b9); (case b1 => rfl); (case b2 => rfl); (case b3 => rfl); (case b4 => rfl); (case b5 => exact HC6.out); (case b6 => kernel_rfl); (case b7 => rfl); (case b8 => simp [Value.oneCell']))
    | fail)
  have r2 := setRow_heap _ (w.heap.size + 1) _ (#[.string s1, .int .u32 id, .int .i64 N, .string s2, .slice (some ⟨gi, 0, none⟩) n c3, .slice (some ⟨gt, 0, none⟩) n c5] : Array Value) _ _ HC6.out
  have kf := kp_setRow w6 (w.heap.size + 1) (#[.string s1, .int .u32 id, .int .i64 N, .string s2, .slice (some ⟨gi, 0, none⟩) n c3, .slice (some ⟨gt, 0, none⟩) n c5] : Array Value)
  refine bodyPost_ret (results_cell_row rfl _ _ (w.heap.size + 1) 153 _ (0, 0) _ rfl r2 Tryd.underlying153 rfl (by kernel_rfl)) rfl ⟨gi, gt, c3, c5, vals, rfl, ?_, ?_, by rw [HV2.out], HV3.out, HV4.out, HK6.out.trans kf (fun m hm => by rw [List.mem_singleton] at hm; subst hm; exact .inr (Nat.le_succ _))⟩
  · exact (HO46.out.kp kf (fun b hb hm => by rw [List.mem_singleton] at hm; subst hm; exact HO46.out.not_at HC6.out (by decide) hb)).base HK2.out.size
  · exact (HO6.out.kp kf (fun b hb hm => by rw [List.mem_singleton] at hm; subst hm; exact HO6.out.not_at HC6.out (by decide) hb)).base HK4.out.size
end Go.Proofs.YtkceaepbjdfccaaDoor
