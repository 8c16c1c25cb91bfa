/-
Words of this claim's own: which blocks a call leaves alone, what a slice reads as, what a call owns; the laws of append and make in those words.
-/
import Derived.WalkKit
import Derived.WalkSpells
import Derived.WalkLawsBesides
import Derived.Deep.RegionLawGrows
import Derived.Deep.LoopGhost
import Derived.Deep.QuietTactic
import Derived.BigQuiet
import Derived.Deep.RegionHeld3
import Derived.Lib.Hide
import Derived.Lib.ConvBytes
namespace Go.Proofs.Ytkceaepbjdfccaa
open Go.RowKit

/-- All old blocks but those of L are as they were. -/
structure Kp (L : List Nat) (w w' : World) : Prop where
  os : w'.os = w.os
  tape : w'.tape = w.tape
  output : w'.output = w.output
  size : w.heap.size ≤ w'.heap.size
  block : ∀ k, k < w.heap.size → k ∉ L → w'.heap[k]? = w.heap[k]?

theorem Kp.refl (L : List Nat) (w : World) : Kp L w w := ⟨rfl, rfl, rfl, Nat.le_refl _, fun _ _ _ => rfl⟩

theorem Kp.trans {L M : List Nat} {a b c : World} (h : Kp L a b) (k : Kp M b c) (hM : ∀ m ∈ M, m ∈ L ∨ a.heap.size ≤ m) : Kp L a c :=
  ⟨k.os.trans h.os, k.tape.trans h.tape, k.output.trans h.output, Nat.le_trans h.size k.size, fun i hi hn => by
    rw [k.block i (Nat.lt_of_lt_of_le hi h.size) (fun hm => by rcases hM i hm with h' | h' <;> first | exact hn h' | omega)]
    exact h.block i hi hn⟩

theorem Kp.trans0 {L : List Nat} {a b c : World} (h : Kp L a b) (k : Kp [] b c) : Kp L a c := h.trans k (fun m hm => by cases hm)

theorem Kp.mono {L M : List Nat} {a b : World} (h : Kp L a b) (hs : ∀ m ∈ L, m ∈ M ∨ a.heap.size ≤ m) : Kp M a b :=
  ⟨h.os, h.tape, h.output, h.size, fun k hk hn => h.block k hk (fun hl => by rcases hs k hl with h' | h' <;> first | exact hn h' | omega)⟩

theorem Kp.below {a b : World} (h : Kp [] a b) : Below a.heap.size a b := ⟨h.os, h.tape, h.output, h.size, fun k hk => h.block k hk (by simp)⟩
theorem Kp.of_below {a b : World} {B : Nat} (h : Below B a b) (hB : a.heap.size ≤ B) : Kp [] a b :=
  ⟨h.os, h.tape, h.output, h.size, fun k hk _ => h.block k (by omega)⟩
theorem Kp.of_grown {a b : World} {L : List Nat} {row : Option Nat} (h : a.grownBy b row) (hr : ∀ k, row = some k → k ∈ L ∨ a.heap.size ≤ k) : Kp L a b :=
  ⟨h.os, h.tape, h.output, h.size, fun k hk hn => h.block k hk (fun e => by rcases hr k e.symm with h' | h' <;> first | exact hn h' | omega)⟩
theorem Kp.of_grown0 {a b : World} {L : List Nat} (h : a.grownBy b none) : Kp L a b := Kp.of_grown h (fun k hk => by cases hk)
theorem Kp.drew {L : List Nat} {a b : World} (h : Kp L a b) : Kp L a b.drew := ⟨h.os, h.tape, h.output, h.size, h.block⟩
theorem Kp.drewN {L : List Nat} {a b : World} (h : Kp L a b) (n : Nat) : Kp L a (b.drewN n) := ⟨h.os, h.tape, h.output, h.size, h.block⟩
theorem Kp.alloc {L : List Nat} {a b : World} (h : Kp L a b) (o : Obj) : Kp L a (b.alloc o) :=
  h.trans (M := []) ⟨rfl, rfl, rfl, by simp, fun k hk _ => Below.heap_alloc _ _ _ hk⟩ (by simp)
theorem Kp.setCell {L : List Nat} {a b : World} (h : Kp L a b) {p : Addr} (hp : p.block ∈ L ∨ a.heap.size ≤ p.block) (u : Value) : Kp L a (b.setCell p u) :=
  h.trans (M := [p.block]) ⟨rfl, rfl, rfl, by simp, fun k hk hn => Below.heap_setCell _ _ _ _ (by simpa using hn)⟩ (by simpa using hp)
theorem Kp.grown {L : List Nat} {a b c : World} {row : Option Nat} (h : Kp L a b) (hg : b.grownBy c row) (hr : ∀ k, row = some k → k ∈ L ∨ a.heap.size ≤ k) : Kp L a c := by
  cases row with
  | none => exact h.trans0 (Kp.of_grown0 hg)
  | some g => exact h.trans (Kp.of_grown (L := [g]) hg (fun k hk => by cases hk; exact .inl (by simp))) (fun m hm => by rw [List.mem_singleton] at hm; subst hm; exact hr _ rfl)
theorem Kp.heap {L : List Nat} {w w' : World} (h : Kp L w w') {k : Nat} {o : Obj} (hb : w.heap[k]? = some o) (hn : k ∉ L) : w'.heap[k]? = some o := by
  have hk : k < w.heap.size := (Array.getElem?_eq_some_iff.1 hb).1
  rw [h.block k hk hn]; exact hb
theorem Kp.cell {L : List Nat} {w w' : World} (h : Kp L w w') {p : Addr} (hk : p.block < w.heap.size) (hn : p.block ∉ L) : w'.cell? p = w.cell? p :=
  World.cell?_of_block (w := w) (h.block p.block hk hn)
theorem Kp.cell_some {L : List Nat} {w w' : World} (h : Kp L w w') {p : Addr} {u : Value} (hc : w.cell? p = some u) (hn : p.block ∉ L) : w'.cell? p = some u := by
  rw [h.cell (World.block_lt_of_cell? w p hc) hn]; exact hc

/-- The slice value v reads as xs (elements of one cell). -/
def Rd (w : World) (v : Value) (xs : List Value) : Prop :=
  ∃ ao cap, v = .slice ao xs.length cap ∧ xs.length ≤ cap ∧ (ao = none → cap = 0) ∧ ∀ a, ao = some a → ∀ i u, xs[i]? = some u → w.cell? (a.add i) = some u

theorem cell_spot {w : World} {a : Addr} {u : Value} (h : w.cell? a = some u) : a.spot = none := by
  unfold World.cell? at h
  split at h
  · cases hs : a.spot with
    | none => rfl
    | some _ => simp [hs] at h
  · cases h
theorem Addr.add_block (a : Addr) (n : Nat) : (a.add n).block = a.block := by unfold Addr.add; split <;> rfl

/-- The call owns the slice v, its block is one from B on, it reads as xs. -/
def Own (w : World) (B : Nat) (e : TypeId) (v : Value) (xs : List Value) : Prop := w.ownsRow B e 1 v xs.length xs

theorem Own.rd {w : World} {B : Nat} {e : TypeId} {v : Value} {xs : List Value} (h : Own w B e v xs) : Rd w v xs := by
  rcases h.2 with ⟨rfl, h0⟩ | ⟨g, cap, cur, rfl, hb, hg, hn, hm, hs, ht⟩
  · exact ⟨none, 0, by rw [h0], by omega, fun _ => rfl, fun a ha => by cases ha⟩
  · refine ⟨some ⟨g, 0, none⟩, cap, rfl, hn, (fun h => by cases h), fun a ha => ?_⟩
    cases ha
    exact World.ownsRow.cells (w := w) (v := .slice (some ⟨g, 0, none⟩) xs.length cap) ⟨h.1, .inr ⟨g, cap, cur, rfl, hb, hg, hn, hm, hs, ht⟩⟩ (g := g) rfl

theorem Own.kp {w w' : World} {L : List Nat} {B : Nat} {e : TypeId} {v : Value} {xs : List Value} (h : Own w B e v xs) (k : Kp L w w') (hn : ∀ b, v.ownBlock = some b → b ∉ L) : Own w' B e v xs := by
  refine ⟨h.1, ?_⟩
  rcases h.2 with hn' | ⟨g, cap, cur, rfl, hb, hg, r⟩
  · exact .inl hn'
  · exact .inr ⟨g, cap, cur, rfl, hb, k.heap hg (hn g rfl), r⟩

theorem Own.lt {w : World} {B : Nat} {e : TypeId} {v : Value} {xs : List Value} (h : Own w B e v xs) {b : Nat} (hb : v.ownBlock = some b) : B ≤ b ∧ b < w.heap.size :=
  World.ownsRow.lt h b hb

theorem Own.base {w : World} {B B' : Nat} {e : TypeId} {v : Value} {xs : List Value} (h : Own w B e v xs) (hB : B' ≤ B) : Own w B' e v xs := by
  refine ⟨h.1, ?_⟩
  rcases h.2 with hn' | ⟨g, cap, cur, hv, hb, r⟩
  · exact .inl hn'
  · exact .inr ⟨g, cap, cur, hv, by omega, r⟩

theorem Own.nil (w : World) (B : Nat) (e : TypeId) : Own w B e (.slice none 0 0) [] := World.ownsRow_nil w B e 1

theorem Rd.kp {w w' : World} {L : List Nat} {v : Value} {xs : List Value} (h : Rd w v xs) (k : Kp L w w') (hn : ∀ b, v.ownBlock = some b → b ∉ L) : Rd w' v xs := by
  obtain ⟨ao, cap, rfl, h1, h2, h3⟩ := h
  refine ⟨ao, cap, rfl, h1, h2, fun a ha i u hu => ?_⟩
  refine k.cell_some (h3 a ha i u hu) (hn _ ?_)
  subst ha; rw [Addr.add_block]; rfl

theorem Rd.kp0 {w w' : World} {v : Value} {xs : List Value} (h : Rd w v xs) (k : Kp [] w w') : Rd w' v xs := h.kp k (by simp)
theorem Own.kp0 {w w' : World} {B : Nat} {e : TypeId} {v : Value} {xs : List Value} (h : Own w B e v xs) (k : Kp [] w w') : Own w' B e v xs := h.kp k (by simp)

theorem Rd.drew {w : World} {v : Value} {xs : List Value} (h : Rd w v xs) : Rd w.drew v xs := h
theorem Own.drew {w : World} {B : Nat} {e : TypeId} {v : Value} {xs : List Value} (h : Own w B e v xs) : Own w.drew B e v xs := h

theorem Rd.nil (w : World) : Rd w (.slice none 0 0) [] := ⟨none, 0, rfl, Nat.le_refl _, fun _ => rfl, fun a ha => by cases ha⟩

/-- A cell of what is read, for a walk. -/
theorem Rd.at {w : World} {ao : Option Addr} {n cap : Nat} {xs : List Value} (h : Rd w (.slice ao n cap) xs) {k : Nat} (hk : k < n) :
    ∃ b off, ao = some ⟨b, off, none⟩ ∧ ∃ hx : k < xs.length, w.cell? ⟨b, off + k, none⟩ = some xs[k] := by
  obtain ⟨ao', cap', he, h1, h2, h3⟩ := h
  simp only [Value.slice.injEq] at he
  obtain ⟨rfl, rfl, rfl⟩ := he
  cases ao with
  | none => have := h2 rfl; omega
  | some a =>
    have h4 := h3 a rfl
    have hs := cell_spot (h4 0 _ (List.getElem?_eq_getElem (by omega)))
    have h5 := h4 k _ (List.getElem?_eq_getElem hk)
    obtain ⟨b, off, sp⟩ := a
    have hs' : sp = none := by simpa [Addr.add] using hs
    subst hs'
    rw [Addr.add_lit] at h5
    exact ⟨b, off, rfl, hk, h5⟩

theorem Rd.form {w : World} {v : Value} {xs : List Value} (h : Rd w v xs) : ∃ ao cap, v = .slice ao xs.length cap := by
  obtain ⟨ao, cap, rfl, _⟩ := h
  exact ⟨ao, cap, rfl⟩
theorem Rd.len {w : World} {ao : Option Addr} {n cap : Nat} {xs : List Value} (h : Rd w (.slice ao n cap) xs) : n = xs.length := by
  obtain ⟨ao', cap', he, _⟩ := h
  simp only [Value.slice.injEq] at he
  exact he.2.1

theorem Own.lit (w : World) (e : TypeId) (cs : Array Value) {B : Nat} (hB : B ≤ w.heap.size) (h : cs.size ≤ 140737488355328) : Own (w.alloc (.cells cs e)) B e (.slice (some ⟨w.heap.size, 0, none⟩) cs.size cs.size) cs.toList := by
  have := World.ownsRow_lit (size := 1) (e := e) w cs cs.size hB (by unfold maxLen; omega) (by simp)
  unfold Own; rw [Array.length_toList]; exact this
theorem rd_lit1 (w : World) (e : TypeId) (a : Value) : Rd (w.alloc (.cells #[a] e)) (.slice (some ⟨w.heap.size, 0, none⟩) 1 1) [a] := (Own.lit w e #[a] (Nat.le_refl _) (by simp)).rd
theorem rd_lit2 (w : World) (e : TypeId) (a b : Value) : Rd (w.alloc (.cells #[a, b] e)) (.slice (some ⟨w.heap.size, 0, none⟩) 2 2) [a, b] := (Own.lit w e #[a, b] (Nat.le_refl _) (by simp)).rd
theorem rd_lit3 (w : World) (e : TypeId) (a b c : Value) : Rd (w.alloc (.cells #[a, b, c] e)) (.slice (some ⟨w.heap.size, 0, none⟩) 3 3) [a, b, c] := (Own.lit w e #[a, b, c] (Nat.le_refl _) (by simp)).rd

/-! bytes -/
def bval (x : UInt8) : Value := .int .u8 (x.toNat : Int)
def bv (l : List UInt8) : List Value := l.map bval
theorem bv_length (l : List UInt8) : (bv l).length = l.length := by simp [bv]
theorem bv_append (l m : List UInt8) : bv (l ++ m) = bv l ++ bv m := by simp [bv]
theorem bv_nil : bv [] = [] := rfl
theorem u8_lt (x : UInt8) : (x.toNat : Int) < 256 := by have := x.toNat_lt; omega
theorem u8_ofNat (n : Nat) (h : n < 256) : bval (UInt8.ofNat n) = .int .u8 (n : Int) := by
  simp [bval, Nat.mod_eq_of_lt h]
theorem u8_ofInt (n : Int) (h0 : 0 ≤ n) (h : n < 256) : bval (UInt8.ofNat n.toNat) = .int .u8 n := by
  rw [u8_ofNat _ (by omega)]; congr 1; omega
theorem u8_inj {x y : UInt8} (h : bval x = bval y) : x = y := by
  simp only [bval, Value.int.injEq, true_and] at h
  exact UInt8.toNat_inj.1 (by omega)
theorem bv_inj {l m : List UInt8} (h : bv l = bv m) : l = m := by
  unfold bv at h
  exact List.map_inj_right (fun x y hxy => u8_inj hxy) |>.1 h

/-- v reads as the bytes l. -/
def Rb (w : World) (v : Value) (l : List UInt8) : Prop := Rd w v (bv l)

theorem Rd.byte {w : World} {ao : Option Addr} {n cap : Nat} {l : List UInt8} (h : Rd w (.slice ao n cap) (bv l)) {k : Nat} (hk : k < n) :
    ∃ b off, ao = some ⟨b, off, none⟩ ∧ ∃ hx : k < l.length, w.cell? ⟨b, off + k, none⟩ = some (.int .u8 (l[k].toNat : Int)) := by
  obtain ⟨b, off, ha, hx, hc⟩ := h.at hk
  refine ⟨b, off, ha, by simpa [bv] using hx, ?_⟩
  rw [hc]; simp [bv, bval]

/-- v reads as a list of slices that read as ls. -/
def Rdd (w : World) (v : Value) (ls : List (List UInt8)) : Prop :=
  ∃ vals : List Value, Rd w v vals ∧ vals.length = ls.length ∧ ∀ (i : Nat) (x : Value) (l : List UInt8), vals[i]? = some x → ls[i]? = some l → Rd w x (bv l)
theorem Rdd.form {w : World} {v : Value} {ls : List (List UInt8)} (h : Rdd w v ls) : ∃ ao cap, v = .slice ao ls.length cap := by
  obtain ⟨vals, h1, h2, _⟩ := h
  obtain ⟨ao, cap, rfl⟩ := h1.form
  exact ⟨ao, cap, by rw [h2]⟩
theorem Rdd.kp0 {w w' : World} {v : Value} {ls : List (List UInt8)} (h : Rdd w v ls) (k : Kp [] w w') : Rdd w' v ls := by
  obtain ⟨vals, h1, h2, h3⟩ := h
  exact ⟨vals, h1.kp0 k, h2, fun i x l hx hl => (h3 i x l hx hl).kp0 k⟩
theorem Rdd.at {w : World} {ao : Option Addr} {n cap : Nat} {ls : List (List UInt8)} (h : Rdd w (.slice ao n cap) ls) {k : Nat} (hk : k < ls.length) :
    ∃ b off, ao = some ⟨b, off, none⟩ ∧ ∃ ao' cap', w.cell? ⟨b, off + k, none⟩ = some (.slice ao' ls[k].length cap') ∧ Rd w (.slice ao' ls[k].length cap') (bv ls[k]) := by
  obtain ⟨vals, h1, h2, h3⟩ := h
  have hn := h1.len
  obtain ⟨b, off, ha, hx, hc⟩ := h1.at (k := k) (by omega)
  have hr := h3 k vals[k] ls[k] (List.getElem?_eq_getElem hx) (List.getElem?_eq_getElem hk)
  obtain ⟨ao', cap', he⟩ := hr.form
  rw [bv_length] at he
  exact ⟨b, off, ha, ao', cap', by rw [hc, he], by rw [← he]; exact hr⟩

/-! the element types of one cell -/
structure El (P : Program) (t e : TypeId) (z : Value) (bytes : Nat) : Prop where
  ht : P.underlying t = some (.slice e)
  hi : (P.info? e).map (fun i => (i.zero, i.size, i.bytes)) = some (some z, 1, bytes)
  hz : z.cells.size = 1

section
variable {P : Program} {w : World} {ops : Array Oper} {rest : List Oper} {o : Oper} {a : Act} {Q : Exit → Act → World → Prop} {K : Act → World → Prop} {t e : TypeId} {z : Value} {bytes : Nat}

theorem run_app (E : El P t e z bytes) (ty : TypeId) {B : Nat} {v src : Value} {xs news : List Value} (hown : Own w B e v xs) (hsrc : Rd w src news) (h1 : ∀ u ∈ news, u.oneCell' = true)
    (hl : xs.length + news.length ≤ 140737488355328) (hb : (xs.length + news.length) * bytes ≤ 140737488355328) (hB : B ≤ w.heap.size) :
    ∃ v' w', (Builtin.append_ #[t, t] ty #[v, src]).run P w = .ok v' w' ∧ Own w' B e v' (xs ++ news) ∧ w.grownBy w' v.ownBlock := by
  obtain ⟨i, hi, hz0, hz1, hz2⟩ := info_parts E.hi
  obtain ⟨ao, cap, rfl, hc1, hc2, hc3⟩ := hsrc
  cases ao with
  | none =>
    obtain rfl := hc2 rfl
    obtain rfl : news = [] := List.eq_nil_of_length_eq_zero (by omega)
    refine ⟨v, w, run_append_owned_none w B t ty e i 1 E.ht hi v _ xs hown, by simpa using hown, World.grownBy.refl _ _⟩
  | some ad =>
    obtain ⟨v', w', hr, h2, h3, h4⟩ := run_append_own (P := P) w B t ty e i z 1 bytes E.ht hi hz0 hz1 hz2 E.hz (by omega) v xs.length xs hown ad news.length cap news (by simp)
      (hc3 ad rfl) h1 (by unfold maxLen; omega) hb hB
    exact ⟨v', w', hr, by unfold Own; rw [List.length_append]; exact h2, h3⟩

theorem op_append (E : El P t e z bytes) (s x : Operand) (hop : o.op = Op.call { callee := Callee.builtin Builtin.append, args := #[s, x], argTypes := #[t, t] })
    {B : Nat} {v src : Value} {xs news : List Value} (hs : a.eval s = v) (hx : a.eval x = src) (hown : Own w B e v xs) (hsrc : Rd w src news) (h1 : ∀ u ∈ news, u.oneCell' = true)
    (hl : xs.length + news.length ≤ 140737488355328) (hb : (xs.length + news.length) * bytes ≤ 140737488355328) (hB : B ≤ w.heap.size)
    (hK : ∀ v' w', Own w' B e v' (xs ++ news) → w.grownBy w' v.ownBlock → K (a.put o.dst v') w') : o.wp P a w K Q := by
  obtain ⟨v', w', hr, h2, h3⟩ := run_app (P := P) E o.type hown hsrc h1 hl hb hB
  unfold Oper.wp
  simp [execOp, hop, resolve, invoke, builtin, hs, hx, hr, Result.andThen]
  exact hK v' w' h2 h3

theorem wpl_append (E : El P t e z bytes) (hg : o.guard = none) (s x : Operand) (hop : o.op = Op.call { callee := Callee.builtin Builtin.append, args := #[s, x], argTypes := #[t, t] })
    {B : Nat} {v src : Value} {xs news : List Value} (hs : a.eval s = v) (hx : a.eval x = src) (hown : Own w B e v xs) (hsrc : Rd w src news) (h1 : ∀ u ∈ news, u.oneCell' = true)
    (hl : xs.length + news.length ≤ 140737488355328) (hb : (xs.length + news.length) * bytes ≤ 140737488355328) (hB : B ≤ w.heap.size)
    (hK : ∀ v' w', Own w' B e v' (xs ++ news) → w.grownBy w' v.ownBlock → wpList P ops Q rest (a.put o.dst v') w') : wpList P ops Q (o :: rest) a w :=
  wpList_plain hg fun _ hK' => op_append E s x hop hs hx hown hsrc h1 hl hb hB (fun v' w' p q => hK' _ _ (hK v' w' p q))

theorem step_append (E : El P t e z bytes) {F : Prop} (hg : o.guard = none) (s x : Operand) (hop : o.op = Op.call { callee := Callee.builtin Builtin.append, args := #[s, x], argTypes := #[t, t] })
    {B : Nat} {v src : Value} {xs news : List Value} (hs : a.eval s = v) (hx : a.eval x = src) (hown : Own w B e v xs) (hsrc : Rd w src news) (h1 : ∀ u ∈ news, u.oneCell' = true)
    (hl : xs.length + news.length ≤ 140737488355328) (hb : (xs.length + news.length) * bytes ≤ 140737488355328) (hB : B ≤ w.heap.size)
    (hK : ∀ v' w', Own w' B e v' (xs ++ news) → w.grownBy w' v.ownBlock → K (a.put o.dst v') w') :
    if Region.wanted o (yielded ops a.tmps) = true then Oper.wp P o a w K Q else F := by
  rw [if_pos (by simp [Region.wanted, hg])]
  exact op_append E s x hop hs hx hown hsrc h1 hl hb hB hK

/-- append within the capacity: where it lies it stays. -/
theorem op_append_fits (E : El P t e z bytes) (s x : Operand) (hop : o.op = Op.call { callee := Callee.builtin Builtin.append, args := #[s, x], argTypes := #[t, t] })
    {B g n cap : Nat} {src : Value} {xs news : List Value} (hs : a.eval s = .slice (some ⟨g, 0, none⟩) n cap) (hx : a.eval x = src) (hown : Own w B e (.slice (some ⟨g, 0, none⟩) n cap) xs) (hsrc : Rd w src news) (h1 : ∀ u ∈ news, u.oneCell' = true)
    (hroom : n + news.length ≤ cap)
    (hK : ∀ w', Own w' B e (.slice (some ⟨g, 0, none⟩) (n + news.length) cap) (xs ++ news) → w.grownBy w' (some g) → K (a.put o.dst (.slice (some ⟨g, 0, none⟩) (n + news.length) cap)) w') : o.wp P a w K Q := by
  obtain ⟨i, hi, hz0, hz1, hz2⟩ := info_parts E.hi
  obtain ⟨ao, cap', rfl, hc1, hc2, hc3⟩ := hsrc
  have hn := hown.rd.len
  cases ao with
  | none =>
    obtain rfl := hc2 rfl
    obtain rfl : news = [] := List.eq_nil_of_length_eq_zero (by omega)
    have hrun := run_append_owned_none (P := P) w B t o.type e i 1 E.ht hi _ _ xs hown
    unfold Oper.wp
    simp [execOp, hop, resolve, invoke, builtin, hs, hx, hrun, Result.andThen]
    exact hK w (by simpa using hown) (World.grownBy.refl _ _)
  | some ad =>
    subst hn
    obtain ⟨w', hrun, r1, r2⟩ := run_append_fits (P := P) w B t o.type e i 1 E.ht hi hz1 g xs.length cap xs hown ad news.length cap' news (by simp)
      (hc3 ad rfl) h1 hroom
    unfold Oper.wp
    simp [execOp, hop, resolve, invoke, builtin, hs, hx, hrun, Result.andThen]
    exact hK w' (by unfold Own; rw [List.length_append]; exact r1) r2

theorem wpl_append_fits (E : El P t e z bytes) (hg : o.guard = none) (s x : Operand) (hop : o.op = Op.call { callee := Callee.builtin Builtin.append, args := #[s, x], argTypes := #[t, t] })
    {B g n cap : Nat} {src : Value} {xs news : List Value} (hs : a.eval s = .slice (some ⟨g, 0, none⟩) n cap) (hx : a.eval x = src) (hown : Own w B e (.slice (some ⟨g, 0, none⟩) n cap) xs) (hsrc : Rd w src news) (h1 : ∀ u ∈ news, u.oneCell' = true)
    (hroom : n + news.length ≤ cap)
    (hK : ∀ w', Own w' B e (.slice (some ⟨g, 0, none⟩) (n + news.length) cap) (xs ++ news) → w.grownBy w' (some g) → wpList P ops Q rest (a.put o.dst (.slice (some ⟨g, 0, none⟩) (n + news.length) cap)) w') : wpList P ops Q (o :: rest) a w :=
  wpList_plain hg fun _ hK' => op_append_fits E s x hop hs hx hown hsrc h1 hroom (fun w' p q => hK' _ _ (hK w' p q))

theorem step_append_fits (E : El P t e z bytes) {F : Prop} (hg : o.guard = none) (s x : Operand) (hop : o.op = Op.call { callee := Callee.builtin Builtin.append, args := #[s, x], argTypes := #[t, t] })
    {B g n cap : Nat} {src : Value} {xs news : List Value} (hs : a.eval s = .slice (some ⟨g, 0, none⟩) n cap) (hx : a.eval x = src) (hown : Own w B e (.slice (some ⟨g, 0, none⟩) n cap) xs) (hsrc : Rd w src news) (h1 : ∀ u ∈ news, u.oneCell' = true)
    (hroom : n + news.length ≤ cap)
    (hK : ∀ w', Own w' B e (.slice (some ⟨g, 0, none⟩) (n + news.length) cap) (xs ++ news) → w.grownBy w' (some g) → K (a.put o.dst (.slice (some ⟨g, 0, none⟩) (n + news.length) cap)) w') :
    if Region.wanted o (yielded ops a.tmps) = true then Oper.wp P o a w K Q else F := by
  rw [if_pos (by simp [Region.wanted, hg])]
  exact op_append_fits E s x hop hs hx hown hsrc h1 hroom hK

/-- make([]T, 0, c) -/
theorem wpl_make0 (E : El P t e z bytes) (hg : o.guard = none) (l c : Operand) (hop : o.op = Op.makeSlice t l c)
    (kl kc : IntKind) (C : Int) (n : Nat) (hl : a.eval l = .int kl 0) (hc : a.eval c = .int kc C) (hC : C = (n : Int)) (b2 : bytes * n ≤ 281474976710656) (b3 : n ≤ 281474976710656)
    (hK : ∀ w', Own w' w.heap.size e (.slice (some ⟨w.heap.size, 0, none⟩) 0 n) [] → w.grownBy w' none → w.heap.size < w'.heap.size → wpList P ops Q rest (a.put o.dst (.slice (some ⟨w.heap.size, 0, none⟩) 0 n)) w') :
    wpList P ops Q (o :: rest) a w := by
  obtain ⟨i, hi, hz0, hz1, hz2⟩ := info_parts E.hi
  exact wpList_make_own w hg l c t hop w.heap.size e i z 1 E.ht hi hz0 hz1 kl kc C n hl hc hC (by rw [hz2]; exact b2) (by unfold maxLen; omega) (Nat.le_refl _)
    (fun w' h1 h2 => hK w' h1 h2 (World.ownsRow.lt h1 w.heap.size rfl).2)

/-- make([]T, n) -/
theorem wpl_make (E : El P t e z bytes) (hz : z.cells = #[z]) (hg : o.guard = none) (l c : Operand) (hop : o.op = Op.makeSlice t l c)
    (kl kc : IntKind) (L C : Int) (n : Nat) (hl : a.eval l = .int kl L) (hc : a.eval c = .int kc C) (hL : L = (n : Int)) (hC : C = (n : Int)) (b2 : bytes * n ≤ 281474976710656) (b3 : n ≤ 281474976710656)
    (hK : ∀ w', Own w' w.heap.size e (.slice (some ⟨w.heap.size, 0, none⟩) n n) (List.replicate n z) → w.grownBy w' none → w.heap.size < w'.heap.size → wpList P ops Q rest (a.put o.dst (.slice (some ⟨w.heap.size, 0, none⟩) n n)) w') :
    wpList P ops Q (o :: rest) a w := by
  obtain ⟨i, hi, hz0, hz1, hz2⟩ := info_parts E.hi
  refine wpList_make_full w hg l c t hop w.heap.size e i z 1 E.ht hi hz0 hz1 kl kc L C n hl hc hL hC (by rw [hz2]; exact b2) (by unfold maxLen; omega) (Nat.le_refl _)
    (fun w' h1 h2 => hK w' ?_ h2 (World.ownsRow.lt h1 w.heap.size rfl).2)
  rw [hz, Nat.mul_one, toList_madeCells_one] at h1
  unfold Own; rw [List.length_replicate]; exact h1
end

/-! bytes and strings -/
def strOf (l : List UInt8) : ByteArray := ⟨l.toArray⟩
theorem strOf_data (s : ByteArray) : strOf s.data.toList = s := by simp [strOf]
theorem strOf_toList (l : List UInt8) : (strOf l).data.toList = l := by simp [strOf]
theorem strOf_size (l : List UInt8) : (strOf l).size = l.length := by simp [strOf, ByteArray.size]
theorem strOf_inj {l m : List UInt8} (h : strOf l = strOf m) : l = m := by
  have := congrArg (fun s => s.data.toList) h
  simpa [strOf_toList] using this

theorem strOfNums_bytes (l : List UInt8) : strOfNums (l.map fun x => (x.toNat : Int)) = strOf l := by
  simp [strOfNums, strOf, Function.comp_def]

/-- string(b) -/
theorem run_str {P : Program} {w : World} {src e dst : TypeId} (hs : P.underlying src = some (.slice e)) (he : P.underlying e = some (.int .u8)) (hd : P.underlying dst = some .string)
    {v : Value} {l : List UInt8} (h : Rd w v (bv l)) : (convert src dst v).run P w = .ok (.string (strOf l)) w := by
  obtain ⟨ao, cap, rfl, h1, h2, h3⟩ := h
  cases ao with
  | none =>
    have := h2 rfl
    subst this
    obtain rfl : l = [] := List.eq_nil_of_length_eq_zero (by rw [bv_length] at h1; omega)
    rw [run_convert_bytes_nil w src e hs he _ _ dst hd]
    rfl
  | some a =>
    have hc := h3 a rfl
    by_cases hl0 : l.length = 0
    · obtain rfl : l = [] := List.eq_nil_of_length_eq_zero hl0
      rw [run_convert_bytes_string w src dst e _ _ cap hs he hd, run_bytesToString w a _ cap [] (by simp [bv, loadCells, loadCellsFrom])]
      rfl
    have hsp := cell_spot (hc 0 (bval l[0]) (by simp [bv, show 0 < l.length by omega]))
    obtain ⟨b, off, sp⟩ := a
    have hsp' : sp = none := by simpa [Addr.add] using hsp
    subst hsp'
    simp only [Addr.add_lit] at hc
    rw [run_convert_bytes_arg w src e hs he b off _ cap (l.map fun x => (x.toNat : Int)) (by simp [bv]) (fun i hi => ?_) dst hd, strOfNums_bytes]
    have hi' : i < l.length := by simpa [bv] using hi
    rw [hc i (bval l[i]) (by simp [bv, hi'])]
    simp [bval, List.getD, hi']

theorem kp_bytesWorld (w : World) (e : TypeId) (s : ByteArray) : Kp [] w (Lib.bytesWorld w e s) :=
  ⟨rfl, rfl, rfl, by rw [Lib.bytesWorld_size]; omega, fun k hk _ => Lib.bytesWorld_at_old w e s k hk⟩
theorem rd_bytesWorld (w : World) (e : TypeId) (s : ByteArray) : Rd (Lib.bytesWorld w e s) (.slice (some ⟨w.heap.size, 0, none⟩) s.size (grownCap w s.size 0 e)) (bv s.data.toList) := by
  have hl : (bv s.data.toList).length = s.size := by rw [bv_length]; exact Array.length_toList
  refine ⟨some ⟨w.heap.size, 0, none⟩, grownCap w s.size 0 e, by rw [hl], by rw [hl]; exact grownCap_ge w s.size 0 e, (fun h => by cases h), fun a ha => ?_⟩
  cases ha
  intro i u hu
  have hi : i < s.size := by rw [← hl]; exact (List.getElem?_eq_some_iff.1 hu).1
  rw [Addr.add_lit, Nat.zero_add, Lib.bytesWorld_cell w e s i hi]
  have hi' : i < s.data.toList.length := by rw [Array.length_toList]; exact hi
  unfold bv at hu
  rw [List.getElem?_map, List.getElem?_eq_getElem hi'] at hu
  simp only [Option.map_some, Option.some.injEq] at hu
  rw [← hu, List.getD, List.getElem?_eq_getElem hi']; rfl

theorem quietS {P : Program} {f : FuncId} {args : Array Value} {w : World} {n : Nat} {v : Value}
    (h : Calls P f args (w.drewN n) fun e w' => e = .returned v ∧ w.drewN n = w') : Calls P f args (w.drewN n) fun e w'' => e = .returned v ∧ ∃ m, w'' = w.drewN m :=
  h.mono fun _ _ ⟨he, hm⟩ => ⟨he, n, hm.symm⟩

/-- cells off .. off + xs.length of c, written over. -/
def splice (c : Array Value) (off : Nat) (xs : List Value) : Array Value := (c.toList.take off ++ xs ++ c.toList.drop (off + xs.length)).toArray
theorem splice_nil (c : Array Value) (off : Nat) : splice c off [] = c := by simp [splice]
theorem splice_size (c : Array Value) (off : Nat) (xs : List Value) (h : off + xs.length ≤ c.size) : (splice c off xs).size = c.size := by
  simp [splice]; omega
theorem splice_get (c : Array Value) (off : Nat) (xs : List Value) (h : off + xs.length ≤ c.size) (j : Nat) :
    (splice c off xs)[j]? = if j < off then c[j]? else if j < off + xs.length then xs[j - off]? else c[j]? := by
  simp only [splice, List.getElem?_toArray, List.getElem?_append, List.length_append, List.length_take, Array.length_toList, List.getElem?_take, List.getElem?_drop, Array.getElem?_toList]
  have h1 : min off c.size = off := by omega
  simp only [h1]
  by_cases a : j < off
  · have b : j < off + xs.length := by omega
    simp only [a, b, if_true]
  · by_cases b : j < off + xs.length
    · simp only [a, b, if_true, if_false]
    · have d : off + xs.length + (j - (off + xs.length)) = j := by omega
      simp only [a, b, if_false, d]
theorem splice_snoc (c : Array Value) (off : Nat) (xs : List Value) (u : Value) (h : off + xs.length < c.size) :
    (splice c off xs).setIfInBounds (off + xs.length) u = splice c off (xs ++ [u]) := by
  apply Array.ext_getElem?
  intro j
  rw [Array.getElem?_setIfInBounds, splice_get c off xs (by omega), splice_get c off (xs ++ [u]) (by simp; omega), splice_size c off xs (by omega)]
  simp only [List.length_append, List.length_singleton, List.getElem?_append]
  by_cases a : off + xs.length = j
  · subst a
    rw [if_pos rfl, if_pos h, if_neg (by omega), if_pos (by omega), if_neg (by omega)]
    simp
  · rw [if_neg a]
    by_cases b : j < off
    · rw [if_pos b, if_pos b]
    · rw [if_neg b, if_neg b]
      by_cases d : j < off + xs.length
      · rw [if_pos d, if_pos (by omega), if_pos (by omega)]
      · rw [if_neg d, if_neg (by omega)]
theorem splice_toList (c : Array Value) (off : Nat) (xs : List Value) : (splice c off xs).toList = c.toList.take off ++ xs ++ c.toList.drop (off + xs.length) := by simp [splice]
end Go.Proofs.Ytkceaepbjdfccaa
