/-
(*parcel.Tray).Add: the plain law; what lies where.
-/
import Derived.Test.YtkceaepbjdfccaaDoorPar10
import Derived.Laws.StructEq
import Derived.Deep.MidRow
import Derived.Laws.OwnMore
namespace Go.Proofs.YtkceaepbjdfccaaDoor
open Go.RowKit
theorem iv_get (l : List Int) (i : Nat) (h : i < l.length) : (iv l)[i]? = some (.int .u8 (l.getD i 0)) := by
  rw [iv, List.getElem?_map, List.getElem?_eq_getElem h, List.getD_eq_getElem?_getD, List.getElem?_eq_getElem h]; rfl
theorem run_part (l : List Int) (i : Nat) (h : i < l.length) (W : World) : (part 5 (iv l).toArray i).run Tryd.prog W = .ok (.int .u8 (l.getD i 0)) W := by
  have hag : (isAgg 5).run Tryd.prog W = .ok false W := by kernel_rfl
  unfold part
  simp only [Sem.run_bind, hag, Result.andThen_ok, Bool.false_eq_true, if_false, List.getElem?_toArray, iv_get l i h, Sem.run_pure]
theorem run_eq_loop (d : Nat) (xs ys : List Int) (hl : xs.length = ys.length) (W : World) : ∀ L : List Nat, (∀ i ∈ L, i < xs.length) →
    (forIn (m := Sem) L ((none, ()) : Option Bool × Unit) fun i _ => do
            let a ← part 5 (iv xs).toArray (i * 1)
            let b ← part 5 (iv ys).toArray (i * 1)
            let r ← Op.equalIn (d + 1) 5 a b
            if (!r) = true then pure (ForInStep.done (some false, ())) else pure (ForInStep.yield (none, ()))).run Tryd.prog W =
      .ok (if ∀ i ∈ L, xs.getD i 0 = ys.getD i 0 then (none, ()) else (some false, ())) W
  | [], _ => by simp
  | i :: L, h => by
    have hi : i < xs.length := h i (by simp)
    have ih := run_eq_loop d xs ys hl W L (fun j hj => h j (by simp [hj]))
    have he := run_equalIn_int (P := Tryd.prog) W d 5 .u8 .u8 (xs.getD i 0) (ys.getD i 0) Tryd.underlying5
    simp only [List.forIn_cons, Sem.run_bind, Nat.mul_one, run_part xs i hi W, run_part ys i (by omega) W, Result.andThen_ok, he]
    by_cases e : xs.getD i 0 = ys.getD i 0
    · have eb : (xs.getD i 0 == ys.getD i 0) = true := by simpa using e
      simp only [eb, Bool.not_true, Bool.false_eq_true, if_false, Sem.run_pure, Result.andThen_ok]
      have ih' := ih
      simp only [Nat.mul_one] at ih'
      rw [ih']
      simp only [List.mem_cons, forall_eq_or_imp, e, true_and]
    · have eb : (xs.getD i 0 == ys.getD i 0) = false := by simpa using e
      simp only [eb, Bool.not_false, if_true, Sem.run_pure, Result.andThen_ok]
      rw [if_neg (fun h => e (h i (by simp)))]
theorem run_eq_bytes (d n : Nat) (t : TypeId) (xs ys : List Int) (hx : xs.length = n) (hy : ys.length = n) (ht : Tryd.prog.underlying t = some (.array n 5)) (W : World) :
    (Op.equalIn (d + 2) t (.agg (iv xs).toArray) (.agg (iv ys).toArray)).run Tryd.prog W = .ok (decide (xs = ys)) W := by
  have hsz : (sizeOf 5).run Tryd.prog W = .ok 1 W := by kernel_rfl
  rw [Op.equalIn]
  simp only [Sem.run_bind, run_underlying ht, Result.andThen_ok, hsz]
  rw [Std.Legacy.Range.forIn_eq_forIn_range']
  rw [run_eq_loop d xs ys (by omega) W _ (fun i hi => by
    rw [List.mem_range'] at hi
    obtain ⟨j, hj, rfl⟩ := hi
    simp [Std.Legacy.Range.size] at hj ⊢
    omega)]
  have hiff : (∀ i ∈ List.range' [:n].start [:n].size [:n].step, xs.getD i 0 = ys.getD i 0) ↔ xs = ys := by
    constructor
    · intro h
      apply List.ext_getElem?
      intro i
      by_cases hi : i < n
      · have h1 := h i (by rw [List.mem_range']; exact ⟨i, by simp [Std.Legacy.Range.size]; exact hi, by simp⟩)
        rw [List.getD_eq_getElem?_getD, List.getD_eq_getElem?_getD, List.getElem?_eq_getElem (by omega), List.getElem?_eq_getElem (by omega)] at h1
        rw [List.getElem?_eq_getElem (by omega), List.getElem?_eq_getElem (by omega)]
        exact congrArg some h1
      · rw [List.getElem?_eq_none (by omega), List.getElem?_eq_none (by omega)]
    · rintro rfl i _; rfl
  by_cases h : xs = ys
  · rw [if_pos (hiff.2 h)]
    simp [h]
  · rw [if_neg (fun h' => h (hiff.1 h'))]
    simp [h]
theorem toI_inj {a b : List UInt8} (h : toI a = toI b) : a = b := by
  have := congrArg iv h
  rw [iv_toI, iv_toI] at this
  exact bv_inj this
theorem mark_same (a : List UInt8) (ha : a.length = 8) (W : World) : (binOp .neq 88 (.agg (bv a).toArray) (.agg (bv a).toArray)).run Tryd.prog W = .ok (.bool false) W := by
  rw [← iv_toI a, run_neq_struct, run_eq_bytes 9998 8 88 (toI a) (toI a) (by rw [toI_len, ha]) (by rw [toI_len, ha]) Tryd.underlying88]
  simp
theorem mark_other (a b : List UInt8) (ha : a.length = 8) (hb : b.length = 8) (h : a ≠ b) (W : World) : (binOp .neq 88 (.agg (bv a).toArray) (.agg (bv b).toArray)).run Tryd.prog W = .ok (.bool true) W := by
  have h' : toI a ≠ toI b := fun e => h (toI_inj e)
  rw [← iv_toI a, ← iv_toI b, run_neq_struct, run_eq_bytes 9998 8 88 (toI a) (toI b) (by rw [toI_len, ha]) (by rw [toI_len, hb]) Tryd.underlying88]
  simp [h']
/-- a part that read has taken -/
structure Qok (q : Prt) : Prop where
  s : q.sum.length = 8
  c1 : 1 ≤ q.cnt
  c2 : q.cnt ≤ 64
  i0 : 0 ≤ q.idx
  i1 : q.idx < q.cnt
  d0 : 0 ≤ q.id
  d1 : q.id < 4294967296
  l : q.cont.length ≤ 497
theorem readL_ok {b : List UInt8} {q : Prt} (h : readL b = some q) : Qok q := by
  unfold readL at h
  split at h
  · cases h
  · rename_i h1
    split at h
    · cases h
    · rename_i h2
      split at h
      · cases h
      · rename_i h3
        cases h
        have h5 : (rs5 b).2.f = 0 := by
          by_cases e : (rs5 b).2.f = 0
          · exact e
          · exact absurd (.inl e) h1
        exact ⟨rs5_len h5, by show 1 ≤ numL (rs3 b).1; omega, by show numL (rs3 b).1 ≤ 64; omega, (numL_lo _).1, by show numL (rs4 b).1 < numL (rs3 b).1; omega, (numL_lo _).1, (numL_lo _).2, by show (rs6 b).1.length ≤ 497; omega⟩
theorem run_mk_parts (W : World) (n : Nat) (h : n ≤ 64) : (Instr.makeSlice 107 (.int .i64 n) (.int .i64 n)).run Tryd.prog W = .ok (.slice (some ⟨W.heap.size, 0, none⟩) n n) (W.alloc (.cells (List.replicate n (Value.pointer none)).toArray 110)) := by
  have E : El Tryd.prog 107 110 (.pointer none) 8 := ⟨Tryd.underlying107, by kernel_rfl, rfl⟩
  obtain ⟨i, hi, hz0, hz1, hz2⟩ := info_parts E.hi
  have hr := run_make (P := Tryd.prog) W _ _ i _ E.ht hi hz0 .i64 .i64 n n (by omega) (Int.le_refl _) (by rw [hz2]; omega) (by omega)
  simp only [Int.toNat_natCast] at hr
  rw [hr, hz1, Nat.mul_one]
  have : madeCells (Value.pointer none).cells n = (List.replicate n (Value.pointer none)).toArray := by
    apply Array.ext'
    have := toList_madeCells_one (.pointer none) n
    simpa [Value.cells] using this
  rw [this]
/-- what lies where while a part is added -/
structure AD (w W : World) (G : Nat → Prop) (t : Nat) (most : Int) (B : Nat) (Z : List Zt) (xb nb : Nat) (q : Prt) (cv : Value) (p : List UInt8) : Prop where
  k : Kp [] w W
  z : TRz W G t most B Z
  x : PartAt W xb q cv
  n : W.heap[nb]? = some (.cells #[.string (strOf p), .int .u32 q.id] 105 (0, 0))
  lx : w.heap.size ≤ xb
  ln : w.heap.size ≤ nb
  lc : ∀ b, cv.ownBlock = some b → w.heap.size ≤ b ∧ b < xb
theorem AD.kp {w W W' : World} {G : Nat → Prop} {t : Nat} {most : Int} {B : Nat} {Z : List Zt} {xb nb : Nat} {q : Prt} {cv : Value} {p : List UInt8} (h : AD w W G t most B Z xb nb q cv p) (k : Kp [] W W') : AD w W' G t most B Z xb nb q cv p :=
  ⟨h.k.trans0 k, h.z.kp0 k, h.x.kp k (by simp) (by simp), k.heap h.n (by simp), h.lx, h.ln, h.lc⟩
theorem AD.drew {w W : World} {G : Nat → Prop} {t : Nat} {most : Int} {B : Nat} {Z : List Zt} {xb nb : Nat} {q : Prt} {cv : Value} {p : List UInt8} (h : AD w W G t most B Z xb nb q cv p) : AD w W.drew G t most B Z xb nb q cv p := h.kp ((Kp.refl [] W).drew)
theorem PartAt.cell {w : World} {xb : Nat} {q : Prt} {cv : Value} (h : PartAt w xb q cv) (i : Nat) (u : Value) (hu : (pcl q.id q.cnt q.idx q.sum cv)[i]? = some u) : w.cell? ⟨xb, i, none⟩ = some u := by
  rw [cell_of_row w xb i _ _ _ h.h]; simpa using hu
theorem PartAt.range {w : World} {xb : Nat} {q : Prt} {cv : Value} (h : PartAt w xb q cv) : w.rangeAt xb 3 (bv q.sum) := by
  intro j v hv
  rw [cell_of_row w xb _ _ _ _ h.h]
  have hj := (List.getElem?_eq_some_iff.1 hv).1
  show (pcl q.id q.cnt q.idx q.sum cv).toArray[3 + j]? = some v
  rw [List.getElem?_toArray, show 3 + j = j + 1 + 1 + 1 by omega]
  show (bv q.sum ++ [cv])[j]? = some v
  rw [List.getElem?_append_left hj, hv]
theorem AD.c0 {w W : World} {G : Nat → Prop} {t : Nat} {most : Int} {B : Nat} {Z : List Zt} {xb nb : Nat} {q : Prt} {cv : Value} {p : List UInt8} (h : AD w W G t most B Z xb nb q cv p) :
    W.cell? ⟨t, 0, none⟩ = some (.int .i64 most) ∧ W.cell? ⟨t, 1, none⟩ = some (.map (some B)) ∧ W.cell? ⟨nb, 0, none⟩ = some (.string (strOf p)) ∧ W.cell? ⟨nb, 1, none⟩ = some (.int .u32 q.id) ∧ W.cell? ⟨xb, 0, none⟩ = some (.int .u32 q.id) ∧ W.cell? ⟨xb, 1, none⟩ = some (.int .i64 q.cnt) ∧ W.cell? ⟨xb, 2, none⟩ = some (.int .i64 q.idx) := by
  refine ⟨?_, ?_, ?_, ?_, h.x.cell 0 _ rfl, h.x.cell 1 _ rfl, h.x.cell 2 _ rfl⟩
  · rw [cell_of_row W t 0 _ _ _ h.z.ht]; rfl
  · rw [cell_of_row W t 1 _ _ _ h.z.ht]; rfl
  · rw [cell_of_row W nb 0 _ _ _ h.n]; rfl
  · rw [cell_of_row W nb 1 _ _ _ h.n]; rfl
theorem PcAt.c8 {w : World} {F : Nat → Prop} {pb ab : Nat} {sum : List UInt8} {ps : List (Option (List UInt8))} (h : PcAt w F pb ab sum ps) : w.cell? ⟨pb, 8, none⟩ = some (.slice (some ⟨ab, 0, none⟩) ps.length ps.length) := by
  rw [cell_of_row w pb 8 _ _ _ h.hp]
  simp [bv_length, h.hs]
theorem PcAt.range {w : World} {F : Nat → Prop} {pb ab : Nat} {sum : List UInt8} {ps : List (Option (List UInt8))} (h : PcAt w F pb ab sum ps) : w.rangeAt pb 0 (bv sum) := by
  intro j v hv
  rw [cell_of_row w pb _ _ _ _ h.hp, List.getElem?_toArray, Nat.zero_add]
  have hj := (List.getElem?_eq_some_iff.1 hv).1
  rw [List.getElem?_append_left hj, hv]
theorem ad_start {w w1 : World} {G : Nat → Prop} {t : Nat} {most : Int} {B : Nat} {Z : List Zt} {q : Prt} {a : Option Addr} {c : Nat} {p : List UInt8} {O : Array Value} (hz : TRz w G t most B Z) (hq : Qok q) (k : Kp [] w w1) (ho : Own w1 w.heap.size 5 (.slice a q.cont.length c) (bv q.cont)) {W2 : World}
    (hW : W2 = (w1.alloc (.cells O 101)).setRow w1.heap.size (pcl q.id q.cnt q.idx q.sum (.slice a q.cont.length c)).toArray) :
    AD w (W2.alloc (.cells #[.string (strOf p), .int .u32 q.id] 105)) G t most B Z w1.heap.size W2.heap.size q (.slice a q.cont.length c) p := by
  have kB : Kp [] w1 (w1.alloc (.cells O 101)) := (Kp.refl [] w1).alloc _
  have kC := kp_setRow (w1.alloc (.cells O 101)) w1.heap.size (pcl q.id q.cnt q.idx q.sum (.slice a q.cont.length c)).toArray
  have kD : Kp [] w1 W2 := by rw [hW]; exact kB.trans kC (fun m hm => by rw [List.mem_singleton] at hm; subst hm; exact .inr (Nat.le_refl _))
  have hx : W2.heap[w1.heap.size]? = some (.cells (pcl q.id q.cnt q.idx q.sum (.slice a q.cont.length c)).toArray 101 (0, 0)) := by rw [hW]; exact setRow_heap _ _ _ _ _ _ (heap_alloc_new w1 _)
  have kE : Kp [] W2 (W2.alloc (.cells #[.string (strOf p), .int .u32 q.id] 105)) := (Kp.refl [] W2).alloc _
  have kA := (k.trans0 kD).trans0 kE
  exact ⟨kA, hz.kp0 kA, ⟨kE.heap hx (by simp), hq.s, ho.rd.kp0 (kD.trans0 kE), hq.l, fun b hb => Nat.lt_of_lt_of_le (ho.lt hb).2 (kD.trans0 kE).size⟩, heap_alloc_new W2 _, k.size, (k.trans0 kD).size, fun b hb => ho.lt hb⟩
/-- the blocks of a tray behind an Add -/
def Gn (G : Nat → Prop) (w : World) (ab : Nat) : Nat → Prop := fun b => G b ∨ (w.heap.size ≤ b ∧ b ≠ ab)
/-- behind the store of a part -/
structure AE (w W : World) (G : Nat → Prop) (t : Nat) (most : Int) (B : Nat) (Z : List Zt) (xb nb : Nat) (q : Prt) (p : List UInt8) (pb ab : Nat) (sum : List UInt8) (ps : List (Option (List UInt8))) : Prop where
  k : Kp [ab] w W
  m : MapIs W B (Zk Z)
  ht : W.heap[t]? = some (.cells #[.int .i64 most, .map (some B)] 99 (0, 0))
  n : W.heap[nb]? = some (.cells #[.string (strOf p), .int .u32 q.id] 105 (0, 0))
  pc : PcAt W (Gn G w ab) pb ab sum (ps.set q.idx.toNat (some q.cont))
  p : ∀ z ∈ Z, z.ab ≠ ab → PcAt W (Gn G w ab) z.pb z.ab z.e.sum z.e.parts
  x : ∃ cv, PartAt W xb q cv
theorem PcAt.free {w : World} {F : Nat → Prop} {pb ab : Nat} {sum : List UInt8} {ps : List (Option (List UInt8))} (h : PcAt w F pb ab sum ps) (i : Nat) : w.frozen? ⟨ab, i, none⟩ = false := by
  obtain ⟨vals, h1, _⟩ := h.ha
  exact frozen_of_row w ab i _ _ h1
theorem PcAt.hole {w : World} {F : Nat → Prop} {pb ab : Nat} {sum : List UInt8} {ps : List (Option (List UInt8))} (h : PcAt w F pb ab sum ps) {i : Nat} (hi : ps[i]? = some none) : w.cell? ⟨ab, i, none⟩ = some (.pointer none) := by
  obtain ⟨vals, h1, h2, h3⟩ := h.ha
  have hlt := (List.getElem?_eq_some_iff.1 hi).1
  have hv : vals[i]? = some vals[i] := List.getElem?_eq_getElem (by omega)
  have h4 : vals[i] = .pointer none := h3 i vals[i] none hv hi
  rw [cell_of_row w ab i _ _ _ h1, List.getElem?_toArray, hv, h4]
theorem PcAt.full {w : World} {F : Nat → Prop} {pb ab : Nat} {sum : List UInt8} {ps : List (Option (List UInt8))} (h : PcAt w F pb ab sum ps) {i : Nat} {c : List UInt8} (hi : ps[i]? = some (some c)) : ∃ xb, w.cell? ⟨ab, i, none⟩ = some (.pointer (some ⟨xb, 0, none⟩)) := by
  obtain ⟨vals, h1, h2, h3⟩ := h.ha
  have hlt := (List.getElem?_eq_some_iff.1 hi).1
  have hv : vals[i]? = some vals[i] := List.getElem?_eq_getElem (by omega)
  obtain ⟨xb, q, cv, h4, _⟩ := h3 i vals[i] (some c) hv hi
  exact ⟨xb, by rw [cell_of_row w ab i _ _ _ h1, List.getElem?_toArray, hv, h4]; rfl⟩
theorem ae_of {w W W' : World} {G : Nat → Prop} {t : Nat} {most : Int} {B : Nat} {Z : List Zt} {xb nb : Nat} {q : Prt} {cv : Value} {p : List UInt8} {pb ab : Nat} {sum : List UInt8} {ps : List (Option (List UInt8))}
    (h : AD w W G t most B Z xb nb q cv p) (hp : PcAt W (Gn G w ab) pb ab sum ps) (hG : ¬ G ab) (hl : q.idx.toNat < ps.length) (e3 : ∀ b, cv.ownBlock = some b → b ≠ ab)
    (hW : W' = W.setCell ⟨ab, q.idx.toNat, none⟩ (pv xb)) : AE w W' G t most B Z xb nb q p pb ab sum ps := by
  have k1 : Kp [ab] W W' := by rw [hW]; exact (Kp.refl [ab] W).setCell (.inl (by simp)) _
  obtain ⟨vals, h1, h2, h3⟩ := hp.ha
  have exb : xb ≠ ab := fun e => by have := h.x.h; rw [e, h1] at this; exact absurd (Obj.cells.inj (Option.some.inj this)).2.1 (by decide)
  have enb : nb ≠ ab := fun e => by have := h.n; rw [e, h1] at this; exact absurd (Obj.cells.inj (Option.some.inj this)).2.1 (by decide)
  have et : t ≠ ab := fun e => by have := h.z.ht; rw [e, h1] at this; exact absurd (Obj.cells.inj (Option.some.inj this)).2.1 (by decide)
  have ep : pb ≠ ab := fun e => by have := hp.hp; rw [e, h1] at this; exact absurd (Obj.cells.inj (Option.some.inj this)).2.1 (by decide)
  have eB : B ≠ ab := fun e => by obtain ⟨es, c, hb, _⟩ := h.z.m.ex; rw [e, h1] at hb; cases hb
  have hgn : ∀ b ∈ [ab], ¬ Gn G w ab b := fun b hb => by
    rw [List.mem_singleton] at hb
    subst hb
    rintro (hh | ⟨_, hh⟩)
    · exact hG hh
    · exact hh rfl
  have hx : PartAt W' xb q cv := h.x.kp k1 (by simpa using exb) (fun b hb => by simpa using e3 b hb)
  refine ⟨(h.k.mono (by simp)).trans k1 (fun m hm => .inl hm), h.z.m.kp k1 (by simpa using eB), k1.heap h.z.ht (by simpa using et), k1.heap h.n (by simpa using enb), ?_, ?_, _, hx⟩
  · refine ⟨hp.f1, ?_, hp.hs, by rw [List.length_set]; exact hp.hn, vals.set q.idx.toNat (pv xb), ?_, by rw [List.length_set, List.length_set, h2], ?_⟩
    · rw [List.length_set]; exact k1.heap hp.hp (by simpa using ep)
    · rw [hW, heap_setCell_same W ab _ _ _ _ h1]; simp
    · intro i v o hv ho
      by_cases hi : i = q.idx.toNat
      · subst hi
        rw [List.getElem?_set_self (by omega)] at hv ho
        cases hv
        cases ho
        exact ⟨xb, q, cv, rfl, .inr ⟨h.lx, exb⟩, hx, rfl, fun b hb => .inr ⟨(h.lc b hb).1, e3 b hb⟩⟩
      · rw [List.getElem?_set_ne (fun e => hi e.symm)] at hv ho
        exact (h3 i v o hv ho).kp k1 hgn (fun _ hb => hb)
  · intro z hz hne
    exact (h.z.p z hz).kp k1 (fun b hb hh => hgn b hb (.inl hh)) (by simpa using hne) (fun _ hb => .inl hb)
/-- the parcels with a part put in -/
def Zset (Z : List Zt) (k : Ky) (i : Nat) (c : List UInt8) : List Zt := Z.map fun z => if z.e.ky = k then { z with e := { z.e with parts := z.e.parts.set i (some c) } } else z
def setE (T : List Ent) (k : Ky) (i : Nat) (c : List UInt8) : List Ent := T.map fun e => if e.ky = k then { e with parts := e.parts.set i (some c) } else e
theorem Zl_set (Z : List Zt) (k : Ky) (i : Nat) (c : List UInt8) : Zl (Zset Z k i c) = setE (Zl Z) k i c := by
  unfold Zl Zset setE
  rw [List.map_map, List.map_map]
  apply List.map_congr_left
  intro z _
  simp only [Function.comp_apply]
  split <;> rfl
theorem Zk_set (Z : List Zt) (k : Ky) (i : Nat) (c : List UInt8) : Zk (Zset Z k i c) = Zk Z := by
  unfold Zk Zset
  rw [List.map_map]
  apply List.map_congr_left
  intro z _
  simp only [Function.comp_apply]
  split <;> rfl
theorem Zab_set (Z : List Zt) (k : Ky) (i : Nat) (c : List UInt8) : (Zset Z k i c).map (fun z => z.ab) = Z.map (fun z => z.ab) := by
  unfold Zset
  rw [List.map_map]
  apply List.map_congr_left
  intro z _
  simp only [Function.comp_apply]
  split <;> rfl
theorem PcAt.lt {w : World} {F : Nat → Prop} {pb ab : Nat} {sum : List UInt8} {ps : List (Option (List UInt8))} (h : PcAt w F pb ab sum ps) : ab < w.heap.size := by
  obtain ⟨vals, h1, _⟩ := h.ha
  exact (Array.getElem?_eq_some_iff.1 h1).1
theorem MapIs.lt {w : World} {B : Nat} {K : List (Ky × Nat)} (h : MapIs w B K) : B < w.heap.size := by
  obtain ⟨es, c, h1, _⟩ := h.ex
  exact (Array.getElem?_eq_some_iff.1 h1).1
theorem PcAt.notB {w : World} {F : Nat → Prop} {pb ab B : Nat} {sum : List UInt8} {ps : List (Option (List UInt8))} {K : List (Ky × Nat)} (h : PcAt w F pb ab sum ps) (m : MapIs w B K) : ab ≠ B := by
  intro e
  obtain ⟨vals, h1, _⟩ := h.ha
  obtain ⟨es, c, hb, _⟩ := m.ex
  rw [e, hb] at h1
  cases h1
/-- behind the store into the map: a parcel that was there -/
theorem fin_old {w W W' : World} {G : Nat → Prop} {t : Nat} {most : Int} {B : Nat} {Z : List Zt} {xb nb : Nat} {q : Prt} {p : List UInt8} {z : Zt} (hz0 : TRz w G t most B Z) (hz : findZ Z (p, q.id) = some z)
    (h : AE w W G t most B Z xb nb q p z.pb z.ab z.e.sum z.e.parts) (hm : MapIs W' B (Zk Z)) (k : Kp [B] W W') : TRz W' (Gn G w z.ab) t most B (Zset Z (p, q.id) q.idx.toNat q.cont) ∧ Kp [z.ab, B] w W' := by
  obtain ⟨hzm, hzk⟩ := findZ_mem hz
  have hBlt := hz0.m.lt
  have hgB : ∀ b ∈ [B], ¬ Gn G w z.ab b := fun b hb => by
    rw [List.mem_singleton] at hb
    subst hb
    rintro (hh | ⟨hh, _⟩)
    · exact hz0.gB hh
    · omega
  have hone : ∀ z' ∈ Z, z'.e.ky = (p, q.id) → z' = z := fun z' hz' hk' => by
    obtain ⟨i, hi⟩ := List.getElem?_of_mem hz'
    obtain ⟨j, hj⟩ := List.getElem?_of_mem hzm
    have hil := (List.getElem?_eq_some_iff.1 hi).1
    have hjl := (List.getElem?_eq_some_iff.1 hj).1
    have nd := hz0.m.nd
    have e1 : ((Zk Z).map (·.1))[i]? = some (p, q.id) := by unfold Zk; rw [List.getElem?_map, List.getElem?_map, hi]; simp [hk']
    have e2 : ((Zk Z).map (·.1))[j]? = some (p, q.id) := by unfold Zk; rw [List.getElem?_map, List.getElem?_map, hj]; simp [hzk]
    have := (List.getElem?_inj (i := i) (j := j) (by simp [Zk]; exact hil) nd).1 (by rw [e1, e2])
    subst this
    rw [hi] at hj
    exact Option.some.inj hj
  have hne : ∀ z' ∈ Z, z' ≠ z → z'.ab ≠ z.ab := fun z' hz' hn e => by
    obtain ⟨i, hi⟩ := List.getElem?_of_mem hz'
    obtain ⟨j, hj⟩ := List.getElem?_of_mem hzm
    have hil := (List.getElem?_eq_some_iff.1 hi).1
    have e1 : (Z.map fun z => z.ab)[i]? = some z.ab := by rw [List.getElem?_map, hi]; simp [e]
    have e2 : (Z.map fun z => z.ab)[j]? = some z.ab := by rw [List.getElem?_map, hj]; rfl
    have := (List.getElem?_inj (i := i) (j := j) (by simp; exact hil) hz0.nd).1 (by rw [e1, e2])
    subst this
    rw [hi] at hj
    exact hn (Option.some.inj hj)
  have hnB : ∀ z' ∈ Z, z'.ab ∉ [B] := fun z' hz' => by rw [List.mem_singleton]; exact hz0.aB hz'
  refine ⟨⟨hgB B (by simp), ?_, .inl hz0.gt, k.heap h.ht (fun hm => hgB _ hm (.inl hz0.gt)), by rw [Zk_set]; exact hm, ?_, by rw [Zab_set]; exact hz0.nd, hz0.hm, by unfold Zset; rw [List.length_map]; exact hz0.len⟩, (h.k.mono (by simp)).trans k (by simp)⟩
  · intro z' hz'
    unfold Zset at hz'
    obtain ⟨z0, hz0m, rfl⟩ := List.mem_map.1 hz'
    have hab : (if z0.e.ky = (p, q.id) then { z0 with e := { z0.e with parts := z0.e.parts.set q.idx.toNat (some q.cont) } } else z0).ab = z0.ab := by split <;> rfl
    rw [hab]
    have hlt := (hz0.p z0 hz0m).lt
    rintro (hh | ⟨hh, _⟩)
    · exact hz0.ga z0 hz0m hh
    · omega
  · intro z' hz'
    unfold Zset at hz'
    obtain ⟨z0, hz0m, rfl⟩ := List.mem_map.1 hz'
    by_cases e : z0.e.ky = (p, q.id)
    · rw [if_pos e]
      obtain rfl := hone z0 hz0m e
      exact h.pc.kp k hgB (hnB _ hz0m) (fun _ hb => hb)
    · rw [if_neg e]
      exact (h.p z0 hz0m (hne z0 hz0m (fun e' => e (e' ▸ hzk)))).kp k hgB (hnB _ hz0m) (fun _ hb => hb)
/-- .. a new one -/
theorem fin_new {w W W' : World} {G : Nat → Prop} {t : Nat} {most : Int} {B : Nat} {Z : List Zt} {xb nb : Nat} {q : Prt} {p : List UInt8} {pb ab : Nat} {ps : List (Option (List UInt8))} (hz0 : TRz w G t most B Z) (hlen : (Z.length : Int) < most)
    (h : AE w W G t most B Z xb nb q p pb ab q.sum ps) (hab : w.heap.size ≤ ab) (hG : ∀ b, G b → b < w.heap.size) (hm : MapIs W' B (Zk Z ++ [((p, q.id), pb)])) (k : Kp [B] W W') :
    TRz W' (Gn G w ab) t most B (Z ++ [⟨⟨p, q.id, q.sum, ps.set q.idx.toNat (some q.cont)⟩, pb, ab⟩]) ∧ Kp [B] w W' := by
  have hBlt := hz0.m.lt
  have hgB : ∀ b ∈ [B], ¬ Gn G w ab b := fun b hb => by
    rw [List.mem_singleton] at hb
    subst hb
    rintro (hh | ⟨hh, _⟩)
    · exact hz0.gB hh
    · omega
  have hne : ∀ z ∈ Z, z.ab ≠ ab := fun z hz => by have := (hz0.p z hz).lt; omega
  have hnB : ab ∉ [B] := by rw [List.mem_singleton]; omega
  refine ⟨⟨hgB B (by simp), ?_, .inl hz0.gt, k.heap h.ht (fun hm => hgB _ hm (.inl hz0.gt)), ?_, ?_, ?_, hz0.hm, by rw [List.length_append, List.length_singleton]; omega⟩, ?_⟩
  · intro z hz
    rcases List.mem_append.1 hz with hz | hz
    · have hlt := (hz0.p z hz).lt
      rintro (hh | ⟨hh, _⟩)
      · exact hz0.ga z hz hh
      · omega
    · rw [List.mem_singleton] at hz
      subst hz
      rintro (hh | ⟨_, hh⟩)
      · exact absurd (hG _ hh) (Nat.not_lt.2 hab)
      · exact hh rfl
  · unfold Zk at hm ⊢
    rw [List.map_append]
    exact hm
  · intro z hz
    rcases List.mem_append.1 hz with hz | hz
    · exact (h.p z hz (hne z hz)).kp k hgB (by rw [List.mem_singleton]; exact hz0.aB hz) (fun _ hb => hb)
    · rw [List.mem_singleton] at hz
      subst hz
      exact h.pc.kp k hgB hnB (fun _ hb => hb)
  · rw [List.map_append, List.nodup_append]
    refine ⟨hz0.nd, by simp, fun a ha b hb => ?_⟩
    obtain ⟨z, hz, rfl⟩ := List.mem_map.1 ha
    rw [List.map_singleton, List.mem_singleton] at hb
    subst hb
    exact hne z hz
  · exact (h.k.mono (M := [B]) (fun m hm => by rw [List.mem_singleton] at hm; subst hm; exact .inr hab)).trans k (fun m hm => .inl hm)
theorem missL_mem {ps : List (Option (List UInt8))} {i : Nat} (h : ps[i]? = some none) : i ∈ missL ps := by
  have hlt := (List.getElem?_eq_some_iff.1 h).1
  unfold missL missT
  rw [List.mem_filter]
  exact ⟨List.mem_range.2 hlt, by simp [List.getD, h]⟩
theorem miss_one {ps : List (Option (List UInt8))} {ix : Nat} (h : (missL ps).length = 1) (hx : ps[ix]? = some none) : ∀ i, i ≠ ix → ps[i]? ≠ some none := by
  intro i hi he
  obtain ⟨a, ha⟩ := List.length_eq_one_iff.1 h
  have h1 := missL_mem hx
  have h2 := missL_mem he
  rw [ha, List.mem_singleton] at h1 h2
  exact hi (h2.trans h1.symm)
theorem pc_new {w W : World} {G : Nat → Prop} {t : Nat} {most : Int} {B : Nat} {Z : List Zt} {xb nb : Nat} {q : Prt} {cv : Value} {p : List UInt8} {n : Nat} (h : AD w W G t most B Z xb nb q cv p) (hq : Qok q) (h1 : 1 ≤ n) (h2 : n ≤ 64) :
    PcAt ((W.alloc (.cells (Array.replicate n (Value.pointer none)) 110)).alloc (.cells (bv q.sum ++ [Value.slice (some ⟨W.heap.size, 0, none⟩) n n]).toArray 109)) (Gn G w W.heap.size) (W.heap.size + 1) W.heap.size q.sum (List.replicate n none) := by
  refine ⟨.inr ⟨by have := h.k.size; omega, by omega⟩, ?_, hq.s, by rw [List.length_replicate]; exact ⟨h1, h2⟩, List.replicate n (Value.pointer none), ?_, by simp, ?_⟩
  · rw [List.length_replicate]
    exact hp_new (by simp)
  · refine ((Kp.refl [] _).alloc _).heap ?_ (by simp)
    rw [heap_alloc_new]
    simp
  · intro i v o hv ho
    obtain ⟨_, rfl⟩ := List.getElem?_eq_some_iff.1 hv
    obtain ⟨_, rfl⟩ := List.getElem?_eq_some_iff.1 ho
    simp [PtAt]
/-- a store into the map -/
theorem wpl_upd {ops : Array Oper} {rest : List Oper} {o : Oper} {a : Act} {Q : Exit → Act → World → Prop} (hg : o.guard = none) (m x v : Operand) (hop : o.op = Op.mapUpdate 97 m x v)
    {w : World} {B b : Nat} {K' : List (Ky × Nat)} {k : Ky} (hm : a.eval m = .map (some B)) (hx : a.eval x = kv k) (hv : a.eval v = pv b)
    (hr : ∃ w', (Instr.mapUpdate 97 (.map (some B)) (kv k) (pv b)).run Tryd.prog w = .ok () w' ∧ MapIs w' B K' ∧ Kp [B] w w')
    (hK : ∀ w', MapIs w' B K' → Kp [B] w w' → wpList Tryd.prog ops Q rest (a.put o.dst undef) w') : wpList Tryd.prog ops Q (o :: rest) a w := by
  refine wpList_plain hg fun K hK' => ?_
  obtain ⟨w', hrun, r1, r2⟩ := hr
  unfold Oper.wp
  simp [execOp, hop, hm, hx, hv, hrun, Result.andThen]
  exact hK' _ _ (hK w' r1 r2)
theorem AE.drew {w W : World} {G : Nat → Prop} {t : Nat} {most : Int} {B : Nat} {Z : List Zt} {xb nb : Nat} {q : Prt} {p : List UInt8} {pb ab : Nat} {sum : List UInt8} {ps : List (Option (List UInt8))} (h : AE w W G t most B Z xb nb q p pb ab sum ps) : AE w W.drew G t most B Z xb nb q p pb ab sum ps := by
  have k : Kp [] W W.drew := (Kp.refl [] W).drew
  obtain ⟨cv, hx⟩ := h.x
  exact ⟨h.k.trans0 k, h.m.kp k (by simp), k.heap h.ht (by simp), k.heap h.n (by simp), h.pc.kp0 k, fun z hz hne => (h.p z hz hne).kp0 k, cv, hx.kp k (by simp) (by simp)⟩
theorem AE.c0 {w W : World} {G : Nat → Prop} {t : Nat} {most : Int} {B : Nat} {Z : List Zt} {xb nb : Nat} {q : Prt} {p : List UInt8} {pb ab : Nat} {sum : List UInt8} {ps : List (Option (List UInt8))} (h : AE w W G t most B Z xb nb q p pb ab sum ps) :
    W.cell? ⟨t, 1, none⟩ = some (.map (some B)) ∧ W.cell? ⟨nb, 0, none⟩ = some (.string (strOf p)) ∧ W.cell? ⟨nb, 1, none⟩ = some (.int .u32 q.id) := by
  refine ⟨?_, ?_, ?_⟩
  · rw [cell_of_row W t 1 _ _ _ h.ht]; rfl
  · rw [cell_of_row W nb 0 _ _ _ h.n]; rfl
  · rw [cell_of_row W nb 1 _ _ _ h.n]; rfl
theorem AE.id {w W W' : World} {G : Nat → Prop} {t : Nat} {most : Int} {B : Nat} {Z : List Zt} {xb nb : Nat} {q : Prt} {p : List UInt8} {pb ab : Nat} {sum : List UInt8} {ps : List (Option (List UInt8))} (h : AE w W G t most B Z xb nb q p pb ab sum ps) (k : Kp [B] W W') : W'.cell? ⟨xb, 0, none⟩ = some (.int .u32 q.id) := by
  obtain ⟨cv, hx⟩ := h.x
  have hne : xb ∉ [B] := by
    rw [List.mem_singleton]
    intro e
    obtain ⟨es, c, hb, _⟩ := h.m.ex
    have := hx.h
    rw [e, hb] at this
    cases this
  exact k.cell_some (hx.cell 0 _ rfl) hne
end Go.Proofs.YtkceaepbjdfccaaDoor
