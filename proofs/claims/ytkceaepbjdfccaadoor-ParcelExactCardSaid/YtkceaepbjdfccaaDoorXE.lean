/-
Both trays beside each other; one step of the script.
-/
import Derived.Test.YtkceaepbjdfccaaDoorRt12
import Derived.Test.YtkceaepbjdfccaaDoorXD
/-
What 'ParcelExact' holds: the program's tray beside the document's; their calls.
-/
namespace Go.Proofs.YtkceaepbjdfccaaDoor
open Go.RowKit
section
variable {W W' : World} {H : Nat → Prop} {r : Nat} {most : Int} {T : List Ent}
theorem RT.kp (h : RT W H r most T) {L : List Nat} (k : Kp L W W') (hL : ∀ b ∈ L, ¬ H b) : RT W' H r most T := by
  obtain ⟨G, lv, cs, h1, h2, h3, h4⟩ := h.ex
  exact ⟨fun b hb => Nat.lt_of_lt_of_le (h.lt b hb) k.size, G, lv, cs, h1.kp k (fun b hb => ⟨fun hg => hL b hb (h4 b hg), fun e => hL b hb (by rw [e]; exact h2), fun e => hL b hb (h3 b e)⟩), h2, h3, h4⟩
/-- out of a list of parcels whose blocks are H's or new -/
theorem RT.of (h : RT W H r most T) (k : W.heap.size ≤ W'.heap.size) {G' : Nat → Prop} {lv' : Value} {cs' : List (List Value)} {T' : List Ent} (h1 : RTz W' G' r most lv' cs' T') (hr : H r) (hG : ∀ b, G' b → H b ∨ W.heap.size ≤ b) (hl : ∀ b, lv'.ownBlock = some b → H b ∨ W.heap.size ≤ b) : RT W' (Fn H W W') r most T' := by
  refine ⟨fun b hb => ?_, G', lv', cs', h1, .inl hr, fun b hb => ?_, fun b hb => ?_⟩
  · rcases hb with hb | hb
    · exact Nat.lt_of_lt_of_le (h.lt b hb) k
    · exact hb.2
  · rcases hl b hb with h2 | h2
    · exact .inl h2
    · exact .inr ⟨h2, (h1.row.lt b hb).2⟩
  · rcases hG b hb with h2 | h2
    · exact .inl h2
    · exact .inr ⟨h2, h1.gb b hb⟩
end
/-- the program's tray holds T, the document's U; the blocks of each are its own, and not the caller's -/
structure PX (w W : World) (F H : Nat → Prop) (t r : Nat) (most : Int) (T U : List Ent) : Prop where
  k : Kp [] w W
  tr : TR W F t most T
  rt : RT W H r most U
  fh : ∀ b, F b → ¬ H b
  fw : ∀ b, F b → w.heap.size ≤ b
  hw : ∀ b, H b → w.heap.size ≤ b
section
variable {w W W' : World} {F H : Nat → Prop} {t r : Nat} {most : Int} {T U : List Ent}
theorem PX.kp (h : PX w W F H t r most T U) {L : List Nat} (k : Kp L W W') (hL : ∀ b ∈ L, ¬ F b ∧ ¬ H b ∧ w.heap.size ≤ b) : PX w W' F H t r most T U :=
  ⟨h.k.trans k (fun b hb => .inr (hL b hb).2.2), h.tr.kp k (fun b hb => (hL b hb).1), h.rt.kp k (fun b hb => (hL b hb).2.1), h.fh, h.fw, h.hw⟩
theorem PX.kp0 (h : PX w W F H t r most T U) (k : Kp [] W W') : PX w W' F H t r most T U := h.kp k (by simp)
theorem PX.fn (h : PX w W F H t r most T U) {L : List Nat} (k : Kp L W W') (hL : ∀ b ∈ L, F b) {T' : List Ent} (tr : TR W' (Fn F W W') t most T') : PX w W' (Fn F W W') H t r most T' U :=
  ⟨h.k.trans k (fun b hb => .inr (h.fw b (hL b hb))), tr, h.rt.kp k (fun b hb => h.fh b (hL b hb)), fun b hb hh => by
    rcases hb with hb | hb
    · exact h.fh b hb hh
    · have := h.rt.lt b hh; omega, fun b hb => by
    rcases hb with hb | hb
    · exact h.fw b hb
    · have := h.k.size; omega, h.hw⟩
theorem PX.hn (h : PX w W F H t r most T U) {L : List Nat} (k : Kp L W W') (hL : ∀ b ∈ L, H b) {U' : List Ent} (rt : RT W' (Fn H W W') r most U') : PX w W' F (Fn H W W') t r most T U' :=
  ⟨h.k.trans k (fun b hb => .inr (h.hw b (hL b hb))), h.tr.kp k (fun b hb hf => h.fh b hf (hL b hb)), rt, fun b hb hh => by
    rcases hh with hh | hh
    · exact h.fh b hb hh
    · have := h.tr.lt b hb; omega, h.fw, fun b hb => by
    rcases hb with hb | hb
    · exact h.hw b hb
    · have := h.k.size; omega⟩
/-- outside both trays -/
structure Ou (w W : World) (F H : Nat → Prop) (b : Nat) : Prop where
  f : ¬ F b
  h : ¬ H b
  w : w.heap.size ≤ b
  l : b < W.heap.size
theorem Ou.fn {b : Nat} (h : Ou w W F H b) (k : W.heap.size ≤ W'.heap.size) : Ou w W' (Fn F W W') H b :=
  ⟨fun hh => by rcases hh with hh | hh; exact h.f hh; have := h.l; omega, h.h, h.w, Nat.lt_of_lt_of_le h.l k⟩
theorem Ou.hn {b : Nat} (h : Ou w W F H b) (k : W.heap.size ≤ W'.heap.size) : Ou w W' F (Fn H W W') b :=
  ⟨h.f, fun hh => by rcases hh with hh | hh; exact h.h hh; have := h.l; omega, h.w, Nat.lt_of_lt_of_le h.l k⟩
theorem Ou.kp {b : Nat} (h : Ou w W F H b) (k : W.heap.size ≤ W'.heap.size) : Ou w W' F H b := ⟨h.f, h.h, h.w, Nat.lt_of_lt_of_le h.l k⟩
theorem px_add {mk : List UInt8 → List UInt8} (ml : ∀ l, (mk l).length = 8) (mc : ∀ W v l, Kp [] w W → Rd W v (bv l) → l.length ≤ 562949953421312 → Calls Tryd.prog 43 #[v] W fun e w' => e = .returned (.agg (bv (mk l)).toArray) ∧ Kp [] W w')
    (h : PX w W F H t r most T U) {p : List UInt8} (hp : p.length ≤ 140737488351232) {v : Value} {b : List UInt8} (hv : Rd W v (bv b)) (hb : b.length ≤ 211106232532992) :
    Calls Tryd.prog 26 #[.pointer (some ⟨t, 0, none⟩), .string (strOf p), v] W fun e w' =>
      e = .returned (.tuple #[.int .u32 (addE mk most T p b).1.1, .bool (addE mk most T p b).1.2.1, .int .i64 (addE mk most T p b).1.2.2]) ∧ PX w w' (Fn F W w') H t r most (addE mk most T p b).2 U ∧ ∃ L, (∀ b ∈ L, F b) ∧ Kp L W w' :=
  (add_any mk F t most T p v b W h.tr hp hv hb (fun W' v l k => mc W' v l (h.k.trans0 k)) ml).mono fun _ _ ⟨h1, L, h2, h3, h4⟩ => ⟨h1, h.fn h4 h3 h2, L, h3, h4⟩
theorem px_radd {mk : List UInt8 → List UInt8} (ms : ∀ W v l, Kp [] w W → Rd W v (bv l) → l.length ≤ 40000 → Calls Tryd.prog 79 #[v] W fun e w' => e = .returned (.string (strOf (mk l))) ∧ Kp [] W w')
    (h : PX w W F H t r most T U) {p : List UInt8} (hp : p.length ≤ 140737488351232) {v : Value} {b : List UInt8} (hv : Rd W v (bv b)) (hb : b.length ≤ 211106232532992) :
    Calls Tryd.prog 54 #[.pointer (some ⟨r, 0, none⟩), .string (strOf p), v] W fun e w' =>
      e = .returned (.tuple #[.int .u32 (addE mk most U p b).1.1, .bool (addE mk most U p b).1.2.1, .int .i64 (addE mk most U p b).1.2.2]) ∧ PX w w' F (Fn H W w') t r most T (addE mk most U p b).2 ∧ ∃ L, (∀ b ∈ L, H b) ∧ Kp L W w' := by
  obtain ⟨G, lv, cs, hz, hr, hlH, hGH⟩ := h.rt.ex
  refine (radd_any mk p v b W hz hp hv hb (fun W' v l k => ms W' v l (h.k.trans0 k))).mono fun e w' ⟨h1, G', lv', cs', h2, h3, h4, h5⟩ => ?_
  have hL : ∀ b ∈ r :: lv.ownBlock.toList, H b := fun b hb => by
    rcases List.mem_cons.1 hb with rfl | hb
    · exact hr
    · rw [Option.mem_toList] at hb
      exact hlH b hb
  exact ⟨h1, h.hn h4 hL (h.rt.of h4.size h2 hr (fun b hb => by rcases h3 b hb with x | x; exact .inl (hGH b x); exact .inr x) (fun b hb => by rcases h5 b hb with x | x; exact .inl (hlH b x); exact .inr x)), _, hL, h4⟩
theorem px_take (h : PX w W F H t r most T U) {p : List UInt8} (hp : p.length ≤ 140737488351232) {id : Int} (h0 : 0 ≤ id) (h1 : id < 4294967296) :
    Calls Tryd.prog 28 #[.pointer (some ⟨t, 0, none⟩), .string (strOf p), .int .u32 id] W fun e w' => ∃ v, e = .returned (.tuple #[v, .int .i64 (takeP T (p, id)).1.2]) ∧ Cut w' W.heap.size v (takeP T (p, id)).1.1 ∧ PX w w' F H t r most (takeP T (p, id)).2 U ∧ ∃ L, (∀ b ∈ L, F b) ∧ Kp L W w' :=
  (take_tray F t most T p id W h.tr hp h0 h1).mono fun _ _ ⟨v, L, h2, h3, h4, h5, h6⟩ => ⟨v, h2, h3, ⟨h.k.trans h6 (fun b hb => .inr (h.fw b (h5 b hb))), h4, h.rt.kp h6 (fun b hb => h.fh b (h5 b hb)), h.fh, h.fw, h.hw⟩, L, h5, h6⟩
theorem px_rtake (h : PX w W F H t r most T U) {p : List UInt8} (hp : p.length ≤ 140737488351232) (id : Int) :
    Calls Tryd.prog 55 #[.pointer (some ⟨r, 0, none⟩), .string (strOf p), .int .u32 id] W fun e w' => ∃ v, e = .returned (.tuple #[v, .int .i64 (takeP U (p, id)).1.2]) ∧ Own w' W.heap.size 5 v (bv (takeP U (p, id)).1.1) ∧ PX w w' F (Fn H W w') t r most T (takeP U (p, id)).2 ∧ ∃ L, (∀ b ∈ L, H b) ∧ Kp L W w' := by
  obtain ⟨G, lv, cs, hz, hr, hlH, hGH⟩ := h.rt.ex
  refine (rtake_any p id W hz hp).mono fun e w' ⟨v, lv', cs', h1, h2, h3, h4, h5⟩ => ?_
  have hL : ∀ b ∈ [r], H b := fun b hb => by rw [List.mem_singleton] at hb; subst hb; exact hr
  exact ⟨v, h1, h2, h.hn h4 hL (h.rt.of h4.size h3 hr (fun b hb => .inl (hGH b hb)) (fun b hb => by rcases h5 b hb with x | x; exact .inl (hlH b x); exact .inr x)), _, hL, h4⟩
theorem px_missing (h : PX w W F H t r most T U) {p : List UInt8} (hp : p.length ≤ 140737488351232) {id : Int} (h0 : 0 ≤ id) (h1 : id < 4294967296) :
    Calls Tryd.prog 27 #[.pointer (some ⟨t, 0, none⟩), .string (strOf p), .int .u32 id] W fun e w' => ∃ v, e = .returned (.tuple #[v, .int .i64 (missP T (p, id)).2]) ∧ Own w' W.heap.size 3 v (nv (missP T (p, id)).1) ∧ PX w w' F H t r most T U ∧ Kp [] W w' :=
  (missing_tray F t most T p id W h.tr hp h0 h1).mono fun _ _ ⟨v, h2, h3, h4⟩ => ⟨v, h2, h3, h.kp0 h4, h4⟩
theorem px_rmissing (h : PX w W F H t r most T U) {p : List UInt8} (hp : p.length ≤ 140737488351232) (id : Int) :
    Calls Tryd.prog 56 #[.pointer (some ⟨r, 0, none⟩), .string (strOf p), .int .u32 id] W fun e w' => ∃ v, e = .returned (.tuple #[v, .int .i64 (missP U (p, id)).2]) ∧ Own w' W.heap.size 3 v (nv (missP U (p, id)).1) ∧ PX w w' F H t r most T U ∧ Kp [] W w' := by
  obtain ⟨G, lv, cs, hz, hr, hlH, hGH⟩ := h.rt.ex
  exact (rmissing_any p id W hz hp).mono fun e w' ⟨v, h2, h3, h4⟩ => ⟨v, h2, h3, h.kp0 h4, h4⟩
theorem px_drop (h : PX w W F H t r most T U) (p : List UInt8) :
    Calls Tryd.prog 30 #[.pointer (some ⟨t, 0, none⟩), .string (strOf p)] W fun e w' => e = .returned (.int .i64 ((T.length - (dropE T p).length : Nat) : Int)) ∧ PX w w' F H t r most (dropE T p) U ∧ ∃ L, (∀ b ∈ L, F b) ∧ Kp L W w' :=
  (drop_tray F t most T p W h.tr).mono fun e w' ⟨n, h1, h2, h3, L, h4, h5⟩ => ⟨by rw [h1, show n = T.length - (dropE T p).length by omega], ⟨h.k.trans h5 (fun b hb => .inr (h.fw b (h4 b hb))), h3, h.rt.kp h5 (fun b hb => h.fh b (h4 b hb)), h.fh, h.fw, h.hw⟩, L, h4, h5⟩
theorem px_rdrop (h : PX w W F H t r most T U) (p : List UInt8) :
    Calls Tryd.prog 57 #[.pointer (some ⟨r, 0, none⟩), .string (strOf p)] W fun e w' => e = .returned (.int .i64 ((U.length - (dropE U p).length : Nat) : Int)) ∧ PX w w' F (Fn H W w') t r most T (dropE U p) ∧ ∃ L, (∀ b ∈ L, H b) ∧ Kp L W w' := by
  obtain ⟨G, lv, cs, hz, hr, hlH, hGH⟩ := h.rt.ex
  refine (rdrop_any p W hz).mono fun e w' ⟨n, lv', cs', h1, h2, h3, h4, h5⟩ => ?_
  have hL : ∀ b ∈ [r], H b := fun b hb => by rw [List.mem_singleton] at hb; subst hb; exact hr
  exact ⟨by rw [h1, show n = U.length - (dropE U p).length by omega], h.hn h4 hL (h.rt.of h4.size h3 hr (fun b hb => .inl (hGH b hb)) (fun b hb => by rcases h5 b hb with x | x; exact .inl (hlH b x); exact .inr x)), _, hL, h4⟩
theorem px_len (h : PX w W F H t r most T U) : Calls Tryd.prog 29 #[.pointer (some ⟨t, 0, none⟩)] W fun e w' => e = .returned (.int .i64 T.length) ∧ W = w' := trayLen_any F t most T W h.tr
theorem px_rlen (h : PX w W F H t r most T U) : Calls Tryd.prog 33 #[.pointer (some ⟨r, 0, none⟩)] W fun e w' => e = .returned (.int .i64 U.length) ∧ W = w' := by
  obtain ⟨G, lv, cs, hz, _⟩ := h.rt.ex
  exact rlen_any W hz
end
end Go.Proofs.YtkceaepbjdfccaaDoor
/-
lethelaw26.step: one step of a script, on both trays.
-/
namespace Go.Proofs.YtkceaepbjdfccaaDoor
open Go.RowKit
set_option maxRecDepth 100000 in
theorem xor_fin85 : ∀ x : Fin 256, 0 ≤ bits .xor .u8 (x.val : Int) 85 ∧ bits .xor .u8 (x.val : Int) 85 < 256 := by decide
theorem xor85 (x : Nat) (h : x < 256) : ∃ u : UInt8, Value.int .u8 (bits .xor .u8 (x : Int) 85) = bval u := by
  have h1 : 0 ≤ bits .xor .u8 (x : Int) 85 := (xor_fin85 ⟨x, h⟩).1
  have h2 : bits .xor .u8 (x : Int) 85 < 256 := (xor_fin85 ⟨x, h⟩).2
  exact ⟨UInt8.ofNat (bits .xor .u8 (x : Int) 85).toNat, (u8_ofInt _ h1 h2).symm⟩
theorem Cut.ge {w : World} {B : Nat} {v : Value} {l : List UInt8} (h : Cut w B v l) {g : Nat} (hb : v.ownBlock = some g) : B ≤ g := by
  rcases h with ⟨rfl, _⟩ | ⟨g', cur, rfl, h1, _⟩
  · cases hb
  · cases hb; exact h1
/-- what a step needs of a text's telling -/
structure MKs (mk : List UInt8 → List UInt8) (w : World) : Prop where
  ml : ∀ l, (mk l).length = 8
  mc : ∀ W v l, Kp [] w W → Rd W v (bv l) → l.length ≤ 562949953421312 → Calls Tryd.prog 43 #[v] W fun e w' => e = .returned (.agg (bv (mk l)).toArray) ∧ Kp [] W w'
  ms : ∀ W v l, Kp [] w W → Rd W v (bv l) → l.length ≤ 40000 → Calls Tryd.prog 79 #[v] W fun e w' => e = .returned (.string (strOf (mk l))) ∧ Kp [] W w'
  sp : ∀ (id : Int) W v l, 0 ≤ id → id < 4294967296 → Kp [] w W → Rd W v (bv l) → l.length ≤ 31808 → Calls Tryd.prog 23 #[.int .u32 id, v] W fun e w' => ∃ v', e = .returned (.tuple #[v', .int .i64 0]) ∧ Pts w' W.heap.size v' (partsM mk id l) ∧ Kp [] W w'
/-- the next world of both trays -/
def PXn (w W : World) (t r : Nat) (most : Int) : Prop := ∃ (F H : Nat → Prop) (T : List Ent), PX w W F H t r most T T
theorem miss_le {w W : World} {F H : Nat → Prop} {t r : Nat} {most : Int} {T : List Ent} (h : PX w W F H t r most T T) {k : Ky} : (missP T k).1.length ≤ 64 := by
  unfold missP
  split
  · simp
  · cases hf : findE T k with
    | none => simp
    | some e =>
      have he : e ∈ T := List.mem_of_find?_eq_some hf
      obtain ⟨G, lv, cs, hz, _⟩ := h.rt.ex
      obtain ⟨j, hj, rfl⟩ := List.getElem_of_mem he
      obtain ⟨_, _, _, _, _, _, _, _, hre, _⟩ := hz.at (List.getElem?_eq_getElem hj)
      have h1 := missT_len T[j].parts T[j].parts.length
      have h2 := hre.n1.2
      unfold missL
      simp only
      omega
section
variable {w W : World} {F H : Nat → Prop} {t r : Nat} {most : Int} {T : List Ent}
set_option maxRecDepth 100000 in
set_option maxHeartbeats 8000000 in
theorem step_any (mk : List UInt8 → List UInt8) (M : MKs mk w) (h : PX w W F H t r most T T) (kind id : Int) (p : List UInt8) (v : Value) (b : List UInt8) (hk : -9223372036854775808 ≤ kind ∧ kind ≤ 9223372036854775807) (hid : 0 ≤ id ∧ id < 4294967296) (hp : p.length ≤ 140737488351232) (hv : Rd w v (bv b)) (hb : b.length ≤ 140737488351232) :
    Calls Tryd.prog 32 #[.pointer (some ⟨t, 0, none⟩), .pointer (some ⟨r, 0, none⟩), .agg #[.int .i64 kind, .string (strOf p), .int .u32 id, v]] W fun e w' => e = .returned (.bool true) ∧ PXn w w' t r most := by
  obtain ⟨va, vc, rfl⟩ := hv.form
  rw [bv_length] at hv ⊢
  have HX := Lib.hid h
  have HV := Lib.hid hv
  have HM := Lib.hid M
  have HID := Lib.hid hid
  have HP := Lib.hid hp
  have HBL := Lib.hid hb
  obtain ⟨n, hn⟩ : ∃ n, b.length = n := ⟨_, rfl⟩
  have HN := Lib.hid hn
  rw [hn] at HV ⊢
  have hn1 : n ≤ 140737488351232 := by rw [← hn]; exact hb
  obtain ⟨sp, hsp⟩ : ∃ sp, strOf p = sp := ⟨_, rfl⟩
  have HSP := Lib.hid hsp
  rw [hsp]
  obtain ⟨hk0, hk1⟩ := hk
  clear h hv M hid hp hb hn hsp
  go_enter Tryd.func32, Tryd.ntmps32
  go_upto_region 1 with fail
  obtain ⟨w1, hw1⟩ : ∃ w1, W.alloc (.cells #[.int .i64 kind, .string sp, .int .u32 id, .slice va n vc] 74) = w1 := ⟨_, rfl⟩
  have HK1 : Hid (Kp [] W w1) := Lib.hid (by rw [← hw1]; exact (Kp.refl [] W).alloc _)
  have HR1 : Hid (w1.heap[W.heap.size]? = some (.cells #[.int .i64 kind, .string sp, .int .u32 id, .slice va n vc] 74 (0, 0))) := Lib.hid (by rw [← hw1]; exact heap_alloc_new W _)
  rw [hw1]
  clear hw1
  have hc3 : (w1.alloc (.cells #[] 5)).cell? ⟨W.heap.size, 3, none⟩ = some (.slice va n vc) := ((Kp.refl [] w1).alloc _).cell_some (by rw [cell_of_row _ _ 3 _ _ _ HR1.out]; rfl) (by simp)
  go_upto_region 2 with (first
    | (at_builtin; (refine wpl_append3 el_u8 rfl (.tmp 28) (.tmp 30) rfl rfl rfl (Own.lit w1 5 #[] (Nat.le_refl _) (by simp)) (HV.out.kp0 ((HX.out.k.trans0 HK1.out).alloc _)) (bv_oneCell _) (by rw [bv_length, HN.out]; simp; omega) (by simp) ?_; intro v2 w2 ho2 hg2 hb2; have HO2 : Hid (Own w2 w1.heap.size 5 v2 (bv b)) := Lib.hid ho2; have HK2 : Hid (Kp [] w1 w2) := Lib.hid (((Kp.refl [] w1).alloc _).grown hg2 (fun b hb => by cases hb; exact .inr (Nat.le_refl _))); clear ho2 hg2 hb2))
    | fail)
  clear hc3
  obtain ⟨oa, oc, hv2⟩ := HO2.out.rd.form
  rw [bv_length, HN.out] at hv2
  subst hv2
  have HX2 := Lib.hid ((HX.out.kp0 HK1.out).kp0 HK2.out)
  have HR2 : Hid (w2.heap[W.heap.size]? = some (.cells #[.int .i64 kind, .string sp, .int .u32 id, .slice va n vc] 74 (0, 0))) := Lib.hid (HK2.out.heap HR1.out (by simp))
  have HOB : Hid (Ou w w2 F H W.heap.size) := Lib.hid ⟨fun hf => by have := HX.out.tr.lt _ hf; omega, fun hf => by have := HX.out.rt.lt _ hf; omega, HX.out.k.size, (Array.getElem?_eq_some_iff.1 HR2.out).1⟩
  have HOO : Hid (∀ g, (Value.slice oa n oc).ownBlock = some g → Ou w w2 F H g) := Lib.hid (fun g hg => by
    have h1 := (HO2.out.lt hg).1
    have h2 := HK1.out.size
    have h3 := HX.out.k.size
    exact ⟨fun hf => by have := HX.out.tr.lt _ hf; omega, fun hf => by have := HX.out.rt.lt _ hf; omega, by omega, (HO2.out.lt hg).2⟩)
  clear HX HK1 HK2 HR1
  generalize W.heap.size = B at *
  have HC2 : Hid (∀ X L, Kp L w2 X → B ∉ L → X.cell? ⟨B, 0, none⟩ = some (.int .i64 kind) ∧ X.cell? ⟨B, 1, none⟩ = some (.string sp) ∧ X.cell? ⟨B, 2, none⟩ = some (.int .u32 id) ∧ X.cell? ⟨B, 3, none⟩ = some (.slice va n vc)) := Lib.hid (fun X L k hm => ⟨k.cell_some (by rw [cell_of_row _ _ 0 _ _ _ HR2.out]; rfl) hm, k.cell_some (by rw [cell_of_row _ _ 1 _ _ _ HR2.out]; rfl) hm, k.cell_some (by rw [cell_of_row _ _ 2 _ _ _ HR2.out]; rfl) hm, k.cell_some (by rw [cell_of_row _ _ 3 _ _ _ HR2.out]; rfl) hm⟩)
  have HST : Hid (∀ (z : ByteArray), (z.toList == z.toList) = true) := Lib.hid (fun z => by simp)
  obtain ⟨hc0, hc1, hc2, hc3⟩ := HC2.out w2 [] (Kp.refl _ _) (by simp)
  by_cases z1 : kind = 1
  · subst z1
    have HA : Hid (∀ X F' H' a c, PX w X F' H' t r most T T → Rd X (.slice a n c) (bv b) → Calls Tryd.prog 26 #[.pointer (some ⟨t, 0, none⟩), .string sp, .slice a n c] X fun e w' => e = .returned (.tuple #[.int .u32 (addE mk most T p b).1.1, .bool (addE mk most T p b).1.2.1, .int .i64 (addE mk most T p b).1.2.2]) ∧ PX w w' (Fn F' X w') H' t r most (addE mk most T p b).2 T ∧ ∃ L, (∀ b ∈ L, F' b) ∧ Kp L X w') := Lib.hid (fun X F' H' a c h hr => by rw [← HSP.out]; exact px_add HM.out.ml HM.out.mc h HP.out hr (by rw [HN.out]; omega))
    have HB : Hid (∀ X F' H' T', PX w X F' H' t r most T' T → Calls Tryd.prog 54 #[.pointer (some ⟨r, 0, none⟩), .string sp, .slice va n vc] X fun e w' => e = .returned (.tuple #[.int .u32 (addE mk most T p b).1.1, .bool (addE mk most T p b).1.2.1, .int .i64 (addE mk most T p b).1.2.2]) ∧ PX w w' F' (Fn H' X w') t r most T' (addE mk most T p b).2 ∧ ∃ L, (∀ b ∈ L, H' b) ∧ Kp L X w') := Lib.hid (fun X F' H' T' h => by rw [← HSP.out]; exact px_radd HM.out.ms h HP.out (HV.out.kp0 h.k) (by rw [HN.out]; omega))
    generalize addE mk most T p b = TP at *
    obtain ⟨⟨ai, aw, ae⟩, aT⟩ := TP
    simp only at HA HB
    go_upto_region 6 with (first
      | (go_at_call 26; go_must (refine (HA.out _ _ _ _ _ HX2.out HO2.out.rd).mono ?_; rintro e w3 ⟨rfl, hx3, L3, hL3, hk3⟩; have HX3 := Lib.hid hx3; have HO3 := Lib.hid (HO2.out.kp hk3 (fun g hg hm => (HOO.out g hg).f (hL3 g hm))); have HOO3 := Lib.hid (fun g hg => (HOO.out g hg).fn hk3.size); have HOB3 := Lib.hid (HOB.out.fn hk3.size); obtain ⟨hc0, hc1, hc2, hc3⟩ := HC2.out w3 L3 hk3 (fun hm => HOB.out.f (hL3 _ hm)); clear hx3 hL3 hk3))
      | (go_at_call 54; go_must (refine (HB.out _ _ _ _ HX3.out).mono ?_; rintro e w4 ⟨rfl, hx4, L4, hL4, hk4⟩; have HX4 := Lib.hid hx4; have HO4 := Lib.hid (HO3.out.kp hk4 (fun g hg hm => (HOO3.out g hg).h (hL4 g hm))); have HOO4 := Lib.hid (fun g hg => (HOO3.out g hg).hn hk4.size); have hc4 := hk4.cell_some hc3 (fun hm => HOB3.out.h (hL4 _ hm)); clear hx4 hL4 hk4))
      | fail)
    generalize Fn F w2 w3 = F3 at *
    generalize Fn H w3 w4 = H4 at *
    have hcvo := run_str (P := Tryd.prog) Tryd.underlying27 Tryd.underlying5 Tryd.underlying9 HO4.out.rd
    have hcvb := run_str (P := Tryd.prog) Tryd.underlying27 Tryd.underlying5 Tryd.underlying9 (HV.out.kp0 HX4.out.k)
    generalize strOf b = zb at *
    have hst := HST.out zb
    have hbb : (aw != aw) = false := by simp
    clear hc0 hc1 hc2 hc3
    go_wp2_with fail
    clear hcvo hcvb hst hbb hc4
    go_loopw [14] (fun i wr => ∃ (q : Nat) (l' : List UInt8), q ≤ n ∧ i = .int .i64 q ∧ Hid (l'.length = n ∧ PX w wr F3 H4 t r most aT aT ∧ Own wr w1.heap.size 5 (.slice oa n oc) (bv l') ∧ ∀ g, (Value.slice oa n oc).ownBlock = some g → Ou w wr F3 H4 g)) (fun i _ => n - (intOf i).toNat)
    case atStart => exact ⟨0, b, Nat.zero_le _, rfl, Lib.hid ⟨HN.out, HX4.out, HO4.out, HOO4.out⟩⟩
    case round =>
      obtain ⟨q, l', hq, rfl, HQ⟩ := hrel
      by_cases hql : q < n
      · obtain ⟨g, ha, hcy, hfz, hb1, hb2, hset⟩ := HQ.out.2.2.1.slot (k := q) (by rw [HQ.out.1]; exact hql)
        subst ha
        have HSE := Lib.hid hset
        obtain ⟨x0, hxe, hx0⟩ : ∃ x : Nat, (l'[q]'(by rw [HQ.out.1]; exact hql)).toNat = x ∧ x < 256 := ⟨_, rfl, (l'[q]'(by rw [HQ.out.1]; exact hql)).toNat_lt⟩
        rw [hxe] at hcy
        obtain ⟨u, hu⟩ := xor85 x0 hx0
        have HU := Lib.hid hu
        have hqI : (q : Int) < (n : Int) := by omega
        clear hxe hset hu hb1 hb2
        go_wp2_with fail
        go_roundw
        case rel => exact ⟨q + 1, l'.set q u, by omega, by go_num, Lib.hid ⟨by rw [List.length_set]; exact HQ.out.1, HQ.out.2.1.kp ((Kp.refl [g] wr).setCell (.inl (by simp)) _) (fun b hb => by rw [List.mem_singleton] at hb; subst hb; have h1 := HQ.out.2.2.2 _ rfl; exact ⟨h1.f, h1.h, h1.w⟩), by rw [HU.out]; exact HSE.out u, fun g' hg' => (HQ.out.2.2.2 g' hg').kp (by simp)⟩⟩
        case measure => simp [intOf]; omega
      · have hqI : ¬ (q : Int) < (n : Int) := by omega
        go_wp2_with fail
        go_ret
        exact ⟨rfl, _, _, _, HQ.out.2.1⟩
  · by_cases z2 : kind = 2
    · subst z2
      have HA : Hid (∀ X F' H', PX w X F' H' t r most T T → Calls Tryd.prog 28 #[.pointer (some ⟨t, 0, none⟩), .string sp, .int .u32 id] X fun e w' => ∃ v, e = .returned (.tuple #[v, .int .i64 (takeP T (p, id)).1.2]) ∧ Cut w' X.heap.size v (takeP T (p, id)).1.1 ∧ PX w w' F' H' t r most (takeP T (p, id)).2 T ∧ ∃ L, (∀ b ∈ L, F' b) ∧ Kp L X w') := Lib.hid (fun X F' H' h => by rw [← HSP.out]; exact px_take h HP.out HID.out.1 HID.out.2)
      have HB : Hid (∀ X F' H' T', PX w X F' H' t r most T' T → Calls Tryd.prog 55 #[.pointer (some ⟨r, 0, none⟩), .string sp, .int .u32 id] X fun e w' => ∃ v, e = .returned (.tuple #[v, .int .i64 (takeP T (p, id)).1.2]) ∧ Own w' X.heap.size 5 v (bv (takeP T (p, id)).1.1) ∧ PX w w' F' (Fn H' X w') t r most T' (takeP T (p, id)).2 ∧ ∃ L, (∀ b ∈ L, H' b) ∧ Kp L X w') := Lib.hid (fun X F' H' T' h => by rw [← HSP.out]; exact px_rtake h HP.out id)
      generalize takeP T (p, id) = TP at *
      obtain ⟨⟨tl, te⟩, tT⟩ := TP
      simp only at HA HB
      go_upto_region 15 with (first
        | (go_at_call 28; go_must (refine (HA.out _ _ _ HX2.out).mono ?_; rintro e w3 ⟨v3, rfl, hct3, hx3, L3, hL3, hk3⟩; have HCT3 := Lib.hid hct3; have HX3 := Lib.hid hx3; obtain ⟨hc0, hc1, hc2, hc3⟩ := HC2.out w3 L3 hk3 (fun hm => HOB.out.f (hL3 _ hm)); clear hct3 hx3 hL3 hk3))
        | (go_at_call 55; go_must (refine (HB.out _ _ _ _ HX3.out).mono ?_; rintro e w4 ⟨v4, rfl, ho4, hx4, L4, hL4, hk4⟩; have HO4 := Lib.hid ho4; have HX4 := Lib.hid hx4; have HCT4 : Hid (Rd w4 v3 (bv tl)) := Lib.hid (HCT3.out.rd.kp hk4 (fun g hg hm => by have h1 := HCT3.out.ge hg; have h2 := HX2.out.rt.lt g (hL4 g hm); omega)); clear ho4 hx4 hL4 hk4))
        | fail)
      obtain ⟨a3, c3, hv3⟩ := HCT4.out.form
      obtain ⟨a4, c4, hv4⟩ := HO4.out.rd.form
      subst hv3
      subst hv4
      have hcv3 := run_str (P := Tryd.prog) Tryd.underlying27 Tryd.underlying5 Tryd.underlying9 HCT4.out
      have hcv4 := run_str (P := Tryd.prog) Tryd.underlying27 Tryd.underlying5 Tryd.underlying9 HO4.out.rd
      generalize strOf tl = zt at *
      generalize (bv tl).length = q at *
      have hst := HST.out zt
      go_wp2_with fail
      go_ret
      exact ⟨rfl, _, _, _, HX4.out⟩
    · by_cases z3 : kind = 3
      · subst z3
        have HA : Hid (∀ X F' H', PX w X F' H' t r most T T → Calls Tryd.prog 27 #[.pointer (some ⟨t, 0, none⟩), .string sp, .int .u32 id] X fun e w' => ∃ v, e = .returned (.tuple #[v, .int .i64 (missP T (p, id)).2]) ∧ Own w' X.heap.size 3 v (nv (missP T (p, id)).1) ∧ PX w w' F' H' t r most T T ∧ Kp [] X w') := Lib.hid (fun X F' H' h => by rw [← HSP.out]; exact px_missing h HP.out HID.out.1 HID.out.2)
        have HB : Hid (∀ X F' H', PX w X F' H' t r most T T → Calls Tryd.prog 56 #[.pointer (some ⟨r, 0, none⟩), .string sp, .int .u32 id] X fun e w' => ∃ v, e = .returned (.tuple #[v, .int .i64 (missP T (p, id)).2]) ∧ Own w' X.heap.size 3 v (nv (missP T (p, id)).1) ∧ PX w w' F' H' t r most T T ∧ Kp [] X w') := Lib.hid (fun X F' H' h => by rw [← HSP.out]; exact px_rmissing h HP.out id)
        have HML : Hid ((missP T (p, id)).1.length ≤ 64) := Lib.hid (miss_le HX2.out)
        generalize missP T (p, id) = TP at *
        obtain ⟨tl, te⟩ := TP
        simp only at HA HB HML
        go_upto_region 19 with (first
          | (go_at_call 27; go_must (refine (HA.out _ _ _ HX2.out).mono ?_; rintro e w3 ⟨v3, rfl, ho3, hx3, hk3⟩; have HO3 := Lib.hid ho3; have HX3 := Lib.hid hx3; have HK3 := Lib.hid hk3; obtain ⟨hc0, hc1, hc2, hc3⟩ := HC2.out w3 [] hk3 (by simp); clear ho3 hx3 hk3))
          | (go_at_call 56; go_must (refine (HB.out _ _ _ HX3.out).mono ?_; rintro e w4 ⟨v4, rfl, ho4, hx4, hk4⟩; have HO4 := Lib.hid ho4; have HX4 := Lib.hid hx4; have HO34 := Lib.hid (HO3.out.kp0 hk4); clear ho4 hx4 hk4))
          | fail)
        obtain ⟨a3, c3, hv3⟩ := HO34.out.rd.form
        obtain ⟨a4, c4, hv4⟩ := HO4.out.rd.form
        subst hv3
        subst hv4
        rw [nv_len]
        obtain ⟨q, hq⟩ : ∃ q, tl.length = q := ⟨_, rfl⟩
        have HQ := Lib.hid hq
        rw [nv_len, hq] at HO34 HO4
        rw [hq]
        have hq64 : q ≤ 64 := by rw [← hq]; exact HML.out
        clear hq hc0 hc1 hc2 hc3
        go_wp2_with fail
        go_loopw [23] (fun i wr => ∃ k : Nat, k ≤ q ∧ i = .int .i64 k ∧ Hid (Kp [] w4 wr)) (fun i _ => q - (intOf i).toNat)
        case atStart => exact ⟨0, Nat.zero_le _, rfl, Lib.hid (Kp.refl _ _)⟩
        case round =>
          obtain ⟨k, hk, rfl, HR⟩ := hrel
          by_cases hlt : k < q
          · obtain ⟨y, hy⟩ : ∃ y, tl[k]? = some y := ⟨_, List.getElem?_eq_getElem (by rw [HQ.out]; exact hlt)⟩
            obtain ⟨b3, o3, rfl, hy3⟩ := (HO34.out.rd.kp0 HR.out).num hy
            obtain ⟨b4, o4, rfl, hy4⟩ := (HO4.out.rd.kp0 HR.out).num hy
            have hd3 : ∀ n, (wr.drewN n).cell? ⟨b3, o3 + k, none⟩ = some (.int .i64 (y : Int)) := fun n => hy3
            have hd4 : ∀ n, (wr.drewN n).cell? ⟨b4, o4 + k, none⟩ = some (.int .i64 (y : Int)) := fun n => hy4
            have hkI : (k : Int) < (q : Int) := by omega
            clear hy3 hy4 hy
            go_wp2_with fail
            go_quiet (fail)
            go_wp2_with fail
            go_roundw
            case rel => exact ⟨k + 1, by omega, by go_num, Lib.hid (HR.out.drewN nq)⟩
            case measure => simp [intOf]; omega
          · have hkI : ¬ (k : Int) < (q : Int) := by omega
            go_wp2_with fail
            go_ret
            exact ⟨rfl, _, _, _, HX4.out.kp0 HR.out⟩
      · by_cases z4 : kind = 4
        · subst z4
          have HA : Hid (∀ X F' H', PX w X F' H' t r most T T → Calls Tryd.prog 30 #[.pointer (some ⟨t, 0, none⟩), .string sp] X fun e w' => e = .returned (.int .i64 ((T.length - (dropE T p).length : Nat) : Int)) ∧ PX w w' F' H' t r most (dropE T p) T ∧ ∃ L, (∀ b ∈ L, F' b) ∧ Kp L X w') := Lib.hid (fun X F' H' h => by rw [← HSP.out]; exact px_drop h p)
          have HB : Hid (∀ X F' H' T', PX w X F' H' t r most T' T → Calls Tryd.prog 57 #[.pointer (some ⟨r, 0, none⟩), .string sp] X fun e w' => e = .returned (.int .i64 ((T.length - (dropE T p).length : Nat) : Int)) ∧ PX w w' F' (Fn H' X w') t r most T' (dropE T p) ∧ ∃ L, (∀ b ∈ L, H' b) ∧ Kp L X w') := Lib.hid (fun X F' H' T' h => by rw [← HSP.out]; exact px_rdrop h p)
          generalize ((T.length - (dropE T p).length : Nat) : Int) = dn at *
          generalize dropE T p = T2 at *
          go_upto_region 27 with fail
          refine wp_region_noPanic ?_
          refine wp_region_held_drew (S := fun X => X.cell? ⟨B, 1, none⟩ = some (.string sp)) (by kernel_rfl) (hc1) (fun hHeld => ?_)
          have hxd := HX2.out.kp0 (Kp.refl [] w2).drew
          have hob := HOB.out.kp (W' := w2.drew) (Nat.le_refl _)
          generalize w2.drew = W0 at *
          refine wpAnyH_take (i := 0) (oi := { dst := some 165, op := Op.move (Operand.tmp 0), type := 54, pos := "law.go:68", after := #[], guard := none }) (v := .pointer (some ⟨t, 0, none⟩)) rfl (by kernel_rfl) (by kernel_rfl) (by kernel_rfl) (fun _ _ _ h => h) (Or.inl ⟨by rfl, by intro w hSw; (try dsimp only at hSw); go_simp⟩) (by assumption) ?_
          try simp only [Act.put, List.setIfInBounds_toArray, List.set_cons_zero, List.set_cons_succ]
          refine wpAnyH_take (i := 1) (oi := { dst := some 166, op := Op.fieldAddr 74 (Operand.tmp 5) 1, type := 0, pos := "law.go:68", after := #[], guard := none }) (v := .pointer (some ⟨B, 1, none⟩)) rfl (by kernel_rfl) (by kernel_rfl) (by kernel_rfl) (fun _ _ _ h => h) (Or.inl ⟨by rfl, by intro w hSw; (try dsimp only at hSw); go_simp⟩) (by assumption) ?_
          try simp only [Act.put, List.setIfInBounds_toArray, List.set_cons_zero, List.set_cons_succ]
          refine wpAnyH_take (i := 2) (oi := { dst := some 167, op := Op.load 9 (Operand.tmp 166), type := 9, pos := "law.go:68", after := #[{ on := 1, ground := Ground.data }], guard := none }) (v := .string sp) rfl (by kernel_rfl) (by kernel_rfl) (by kernel_rfl) (fun _ _ _ h => h) (Or.inl ⟨by rfl, by intro w hSw; (try dsimp only at hSw); have hcx := hSw; go_simp⟩) (by assumption) ?_
          try simp only [Act.put, List.setIfInBounds_toArray, List.set_cons_zero, List.set_cons_succ]
          refine wpAnyH_take (i := 4) (oi := { dst := some 169, op := Op.move (Operand.tmp 1), type := 69, pos := "law.go:68", after := #[], guard := none }) (v := .pointer (some ⟨r, 0, none⟩)) rfl (by kernel_rfl) (by kernel_rfl) (by kernel_rfl) (fun _ _ _ h => h) (Or.inl ⟨by rfl, by intro w hSw; (try dsimp only at hSw); go_simp⟩) (by assumption) ?_
          try simp only [Act.put, List.setIfInBounds_toArray, List.set_cons_zero, List.set_cons_succ]
          refine wpAnyH_take (i := 5) (oi := { dst := some 170, op := Op.fieldAddr 74 (Operand.tmp 5) 1, type := 0, pos := "law.go:68", after := #[], guard := none }) (v := .pointer (some ⟨B, 1, none⟩)) rfl (by kernel_rfl) (by kernel_rfl) (by kernel_rfl) (fun _ _ _ h => h) (Or.inl ⟨by rfl, by intro w hSw; (try dsimp only at hSw); go_simp⟩) (by assumption) ?_
          try simp only [Act.put, List.setIfInBounds_toArray, List.set_cons_zero, List.set_cons_succ]
          refine wpAnyH_take (i := 6) (oi := { dst := some 171, op := Op.load 9 (Operand.tmp 170), type := 9, pos := "law.go:68", after := #[{ on := 5, ground := Ground.data }], guard := none }) (v := .string sp) rfl (by kernel_rfl) (by kernel_rfl) (by kernel_rfl) (fun _ _ _ h => h) (Or.inl ⟨by rfl, by intro w hSw; (try dsimp only at hSw); have hcx := hSw; go_simp⟩) (by assumption) ?_
          try simp only [Act.put, List.setIfInBounds_toArray, List.set_cons_zero, List.set_cons_succ]
          refine wpAnyH_ready (rs := [3]) (by kernel_rfl) (by simp) ?_
          refine AllReadyH.cons (o := { dst := some 168, op := Op.call { callee := Callee.value (Operand.func 30), args := #[Operand.tmp 165, Operand.tmp 167], argTypes := #[54, 9] }, type := 3, pos := "law.go:68", after := #[{ on := 0, ground := Ground.data }, { on := 2, ground := Ground.data }], guard := none }) rfl (fun K' hK => ?_) AllReadyH.nil
          go_simp
          refine (HA.out _ _ _ hxd).mono ?_
          rintro e W1 ⟨rfl, hx1, L1, hL1, hk1⟩
          have hcw1 := hk1.cell_some hHeld (fun hm => hob.f (hL1 _ hm))
          have hob1 := hob.kp hk1.size
          (try go_simp)
          refine hK.out _ _ (hcw1) (fun hHeld => ?_)
          clear hK K'
          try simp only [Act.put, List.setIfInBounds_toArray, List.set_cons_zero, List.set_cons_succ]
          refine wpAnyH_ready (rs := [7]) (by kernel_rfl) (by simp) ?_
          refine AllReadyH.cons (o := { dst := some 172, op := Op.call { callee := Callee.value (Operand.func 57), args := #[Operand.tmp 169, Operand.tmp 171], argTypes := #[69, 9] }, type := 3, pos := "law.go:68", after := #[{ on := 4, ground := Ground.data }, { on := 6, ground := Ground.data }, { on := 3, ground := Ground.chain }], guard := none }) rfl (fun K' hK => ?_) AllReadyH.nil
          go_simp
          refine (HB.out _ _ _ _ hx1).mono ?_
          rintro e W2 ⟨rfl, hx2, L2, hL2, hk2⟩
          have hcw2 := hk2.cell_some hHeld (fun hm => hob1.h (hL2 _ hm))
          (try go_simp)
          refine hK.out _ _ (hcw2) (fun hHeld => ?_)
          clear hK K'
          try simp only [Act.put, List.setIfInBounds_toArray, List.set_cons_zero, List.set_cons_succ]
          refine wpAnyH_take (i := 8) (oi := { dst := some 173, op := Op.binOp BinOp.eql 3 (Operand.tmp 168) (Operand.tmp 172) 3, type := 4, pos := "law.go:68", after := #[{ on := 3, ground := Ground.data }, { on := 7, ground := Ground.data }], guard := none }) (v := .bool true) rfl (by kernel_rfl) (by kernel_rfl) (by kernel_rfl) (fun _ _ _ h => h) (Or.inl ⟨by rfl, by intro w hSw; (try dsimp only at hSw); go_simp⟩) (by assumption) ?_
          try simp only [Act.put, List.setIfInBounds_toArray, List.set_cons_zero, List.set_cons_succ]
          refine wpAnyH_take (i := 9) (oi := { dst := some 6, op := Op.assign (Operand.tmp 173), type := 4, pos := "law.go:68", after := #[{ on := 8, ground := Ground.data }, { on := 7, ground := Ground.chain }, { on := 0, ground := Ground.phase }, { on := 1, ground := Ground.phase }, { on := 2, ground := Ground.phase }, { on := 3, ground := Ground.phase }, { on := 4, ground := Ground.phase }, { on := 5, ground := Ground.phase }, { on := 6, ground := Ground.phase }, { on := 7, ground := Ground.phase }, { on := 8, ground := Ground.phase }], guard := none }) (v := .bool true) rfl (by kernel_rfl) (by kernel_rfl) (by kernel_rfl) (fun _ _ _ h => h) (Or.inl ⟨by rfl, by intro w hSw; (try dsimp only at hSw); go_simp⟩) (by assumption) ?_
          try simp only [Act.put, List.setIfInBounds_toArray, List.set_cons_zero, List.set_cons_succ]
          refine wpAnyH_done (by kernel_rfl) ?_ _
          refine NoPanic.normal ?_
          have HXE := Lib.hid hx2
          clear hx2 hx1 hxd hob hob1 hL1 hL2 hk1 hk2 hHeld hcw1 hcw2
          go_wp2_with fail
          go_ret
          exact ⟨rfl, _, _, _, HXE.out⟩
        · by_cases z5 : kind = 5
          · subst z5
            go_wp2_with (first
              | (go_at_call 29; go_must (refine (px_len HX2.out).mono ?_; rintro e w3 ⟨rfl, rfl⟩))
              | (go_at_call 33; go_must (refine (px_rlen HX2.out).mono ?_; rintro e w3 ⟨rfl, rfl⟩))
              | fail)
            go_ret
            exact ⟨rfl, F, H, T, HX2.out⟩
          · by_cases z6 : kind = 6
            · subst z6
              by_cases hl : n ≤ 31808
              · have HA : Hid (∀ X a c, Kp [] w X → Rd X (.slice a n c) (bv b) → Calls Tryd.prog 23 #[.int .u32 id, .slice a n c] X fun e w' => ∃ v', e = .returned (.tuple #[v', .int .i64 0]) ∧ Pts w' X.heap.size v' (partsM mk id b) ∧ Kp [] X w') := Lib.hid (fun X a c k hr => HM.out.sp id X _ b HID.out.1 HID.out.2 k hr (by rw [HN.out]; exact hl))
                have HB : Hid (∀ X, Kp [] w X → Calls Tryd.prog 58 #[.int .u32 id, .slice va n vc] X fun e w' => ∃ v', e = .returned (.tuple #[v', .int .i64 0]) ∧ Pts w' X.heap.size v' (partsM mk id b) ∧ Kp [] X w') := Lib.hid (fun X k => rsplit_any mk id HID.out.1 HID.out.2 _ b X (HV.out.kp0 k) (by rw [HN.out]; exact hl) (HM.out.ml b) (HM.out.ms X _ b k (HV.out.kp0 k) (by rw [HN.out]; omega)))
                have HPL : Hid ((partsM mk id b).length ≤ 100000) := Lib.hid (by rw [partsM_len]; have := (cntP_small (by rw [HN.out]; exact hl : b.length ≤ 31808)).2; omega)
                generalize partsM mk id b = PL at *
                go_upto_region 33 with (first
                  | (go_at_call 23; go_must (refine (HA.out _ _ _ HX2.out.k HO2.out.rd).mono ?_; rintro e w3 ⟨v3, rfl, hp3, hk3⟩; have HP3 := Lib.hid hp3; have HK3 := Lib.hid hk3; obtain ⟨hc0, hc1, hc2, hc3⟩ := HC2.out w3 [] hk3 (by simp); clear hp3 hk3))
                  | (go_at_call 58; go_must (refine (HB.out _ (HX2.out.k.trans0 HK3.out)).mono ?_; rintro e w4 ⟨v4, rfl, hp4, hk4⟩; have HP4 := Lib.hid hp4; have HP34 := Lib.hid (HP3.out.kp hk4); have HK4 := Lib.hid (HK3.out.trans0 hk4); clear hp4 hk4))
                  | fail)
                have HS5 := Lib.hid (same_any v3 v4 PL w4 HP34.out.rdd HP4.out.rdd HPL.out)
                have HO4 := Lib.hid (HO2.out.kp0 HK4.out)
                have HXX := Lib.hid (HX2.out.kp0 HK4.out)
                clear hc0 hc1 hc2 hc3
                go_wp2_with (first
                  | (go_at_call 24; go_must (refine HS5.out.mono ?_; rintro e w5 ⟨rfl, hk5⟩; have hcvo := run_str (P := Tryd.prog) Tryd.underlying27 Tryd.underlying5 Tryd.underlying9 (HO4.out.kp0 hk5).rd; have HXW := Lib.hid (HXX.out.kp0 hk5); have hcvb := run_str (P := Tryd.prog) Tryd.underlying27 Tryd.underlying5 Tryd.underlying9 (HV.out.kp0 HXW.out.k); obtain ⟨hc0, hc1, hc2, hc3⟩ := HC2.out w5 [] (HK4.out.trans0 hk5) (by simp); have hst := HST.out (strOf b); clear hk5))
                  | fail)
                go_ret
                exact ⟨rfl, _, _, _, HXW.out⟩
              · have HA : Hid (∀ X a c, Rd X (.slice a n c) (bv b) → Calls Tryd.prog 23 #[.int .u32 id, .slice a n c] X fun e w' => e = .returned (.tuple #[.slice none 0 0, .int .i64 5]) ∧ X = w') := Lib.hid (fun X a c hr => split_long id _ b X hr (by rw [HN.out]; omega))
                have HB : Hid (∀ X, Kp [] w X → Calls Tryd.prog 58 #[.int .u32 id, .slice va n vc] X fun e w' => e = .returned (.tuple #[.slice none 0 0, .int .i64 5]) ∧ X = w') := Lib.hid (fun X k => rsplit_long id _ b X (HV.out.kp0 k) (by rw [HN.out]; omega))
                go_upto_region 33 with (first
                  | (go_at_call 23; go_must (refine (HA.out _ _ _ HO2.out.rd).mono ?_; rintro e w3 ⟨rfl, rfl⟩))
                  | (go_at_call 58; go_must (refine (HB.out _ HX2.out.k).mono ?_; rintro e w4 ⟨rfl, rfl⟩))
                  | fail)
                obtain ⟨w4, hw4⟩ : ∃ w4, w2 = w4 := ⟨_, rfl⟩
                have HK4 : Hid (Kp [] w2 w4) := Lib.hid (by rw [← hw4]; exact Kp.refl _ _)
                rw [hw4]
                clear hw4
                have HS5 := Lib.hid (same_any (.slice none 0 0) (.slice none 0 0) [] w4 (Rdd.of (vals := []) (Rd.nil w4) rfl (fun i x l hx => by simp at hx)) (Rdd.of (vals := []) (Rd.nil w4) rfl (fun i x l hx => by simp at hx)) (by simp))
                have HO4 := Lib.hid (HO2.out.kp0 HK4.out)
                have HXX := Lib.hid (HX2.out.kp0 HK4.out)
                clear hc0 hc1 hc2 hc3
                go_wp2_with (first
                  | (go_at_call 24; go_must (refine HS5.out.mono ?_; rintro e w5 ⟨rfl, hk5⟩; have hcvo := run_str (P := Tryd.prog) Tryd.underlying27 Tryd.underlying5 Tryd.underlying9 (HO4.out.kp0 hk5).rd; have HXW := Lib.hid (HXX.out.kp0 hk5); have hcvb := run_str (P := Tryd.prog) Tryd.underlying27 Tryd.underlying5 Tryd.underlying9 (HV.out.kp0 HXW.out.k); obtain ⟨hc0, hc1, hc2, hc3⟩ := HC2.out w5 [] (HK4.out.trans0 hk5) (by simp); have hst := HST.out (strOf b); clear hk5))
                  | fail)
                go_ret
                exact ⟨rfl, _, _, _, HXW.out⟩
            · have y1 : (kind == 1) = false := by rw [beq_eq_false_iff_ne]; exact z1
              have y2 : (kind == 2) = false := by rw [beq_eq_false_iff_ne]; exact z2
              have y3 : (kind == 3) = false := by rw [beq_eq_false_iff_ne]; exact z3
              have y4 : (kind == 4) = false := by rw [beq_eq_false_iff_ne]; exact z4
              have y5 : (kind == 5) = false := by rw [beq_eq_false_iff_ne]; exact z5
              have y6 : (kind == 6) = false := by rw [beq_eq_false_iff_ne]; exact z6
              clear z1 z2 z3 z4 z5 z6
              go_wp2_with fail
              go_ret
              exact ⟨rfl, F, H, T, HX2.out⟩
end
end Go.Proofs.YtkceaepbjdfccaaDoor
