/-
The law's step: its words; the rooms.
-/
import Derived.Test.YtkceaepbjdfccaaWx14
import Derived.Deep.CutRange
import Derived.Deep.CutBlock
import Derived.Deep.DeepCutAuto
namespace Go.Proofs.Ytkceaepbjdfccaa
open Go.RowKit
/-- what the two writers and the two readers hold -/
structure Md where
  w0 : Option Ws
  w1 : Option Ws
  r0 : Option Qs
  r1 : Option Qs
def CM (M : Md) : Nat → Pr
  | 0 => CW M.w0
  | 1 => CW M.w1
  | 2 => CV M.w0
  | 3 => CV M.w1
  | 4 => CR M.r0
  | 5 => CR M.r1
  | 6 => CQ M.r0
  | _ => CQ M.r1
section
variable {w0 w W W' : World} {o o1 : Nat → Nat} {t n : Nat} {C : Nat → Pr} {vs : Nat → Value}
theorem Fr.refl : Fr o [] w w := ⟨[], Kp.refl _ _, by simp⟩
theorem Fr.next {E : List Nat} (h : Fr o [] w W) (h2 : Fr o1 E W W') (hz : ∀ b, o b = 0 → b < w.heap.size → o1 b = 0) (hE : ∀ b ∈ E, w.heap.size ≤ b) : Fr o [] w W' := by
  obtain ⟨L, k, hL⟩ := h
  obtain ⟨L2, k2, hL2⟩ := h2
  refine ⟨L ++ L2.filter (fun b => o b ≠ 0), (k.mono (fun m hm => .inl (by simp [hm]))).trans k2 (fun m hm => ?_), fun b hb => .inl ?_⟩
  · by_cases hlt : m < w.heap.size
    · by_cases h0 : o m = 0
      · rcases hL2 m hm with h1 | h1
        · exact absurd (hz m h0 hlt) h1
        · have := hE m h1; omega
      · exact .inl (by simp [hm, h0])
    · exact .inr (by omega)
  · rcases List.mem_append.1 hb with hb | hb
    · exact (hL b hb).elim id (fun h => by cases h)
    · have := (List.mem_filter.1 hb).2; simpa using this
theorem Fr.next0 (h : Fr o [] w W) (k : Kp [] W W') : Fr o [] w W' := h.next (o1 := o) (E := []) ⟨[], k, by simp⟩ (fun _ h _ => h) (by simp)
/-- bytes that were handed in -/
def Inp (w : World) (o : Nat → Nat) (v : Value) (l : List UInt8) : Prop := Rd w v (bv l) ∧ (l ≠ [] → ∀ b ∈ ob v, o b = 0)
theorem Inp.at {v : Value} {l : List UInt8} (h : Inp w o v l) (k : Fr o [] w W) : Rd W v (bv l) := by
  cases l with
  | nil =>
    obtain ⟨ao, cap, rfl, h1, h2, h3⟩ := h.1
    exact ⟨ao, cap, rfl, h1, h2, fun a _ i u hu => by cases hu⟩
  | cons x r => exact k.rd h.1 (fun b hb => ⟨h.2 (by simp) b hb, by simp⟩)
theorem Inp.of {v : Value} {l : List UInt8} (h : Rd w0 v (bv l)) (hX : WX w0 w o t C vs n) : Inp w o v l := by
  refine ⟨h.kp0 hX.kp, fun hl b hb => ?_⟩
  obtain ⟨ao, cap, rfl, h1, h2, h3⟩ := h
  cases ao with
  | none => cases hb
  | some a =>
    have hb' : b = a.block := by simpa [ob, Value.ownBlock] using hb
    subst hb'
    obtain ⟨x, r, rfl⟩ : ∃ x r, l = x :: r := by cases l with
      | nil => exact absurd rfl hl
      | cons x r => exact ⟨x, r, rfl⟩
    have hc := h3 a rfl 0 (bval x) rfl
    have hlt := World.block_lt_of_cell? w0 _ hc
    rw [Addr.add_block] at hlt
    by_cases h0 : o a.block = 0
    · exact h0
    · have := (hX.old _ h0).1; omega
/-- the box of an op -/
def Bx (w : World) (b : Nat) (k wh nn : Int) (B C : Value) (S : ByteArray) : Prop := w.heap[b]? = some (.cells #[.int .i64 k, .int .i64 wh, .int .i64 nn, B, C, .string S] 95 (0, 0))
theorem Bx.c {b : Nat} {k wh nn : Int} {B C : Value} {S : ByteArray} (h : Bx w b k wh nn B C S) : w.cell? ⟨b, 0, none⟩ = some (.int .i64 k) ∧ w.cell? ⟨b, 1, none⟩ = some (.int .i64 wh) ∧ w.cell? ⟨b, 2, none⟩ = some (.int .i64 nn) ∧ w.cell? ⟨b, 3, none⟩ = some B ∧ w.cell? ⟨b, 4, none⟩ = some C ∧ w.cell? ⟨b, 5, none⟩ = some (.string S) := by
  refine ⟨?_, ?_, ?_, ?_, ?_, ?_⟩ <;> rw [cell_of_row w b _ _ _ _ h] <;> rfl
theorem Bx.kp {b : Nat} {k wh nn : Int} {B C : Value} {S : ByteArray} {L : List Nat} (h : Bx w b k wh nn B C S) (kk : Kp L w W) (hb : b ∉ L) : Bx W b k wh nn B C S := kk.heap h hb
theorem Bx.fr {b : Nat} {k wh nn : Int} {B C : Value} {S : ByteArray} (h : Bx w b k wh nn B C S) (kk : Fr o [] w W) (hb : o b = 0) : Bx W b k wh nn B C S := kk.row h ⟨hb, by simp⟩
/-- a room: a slice of the law's own, longer by three marks -/
structure Rm (w : World) (o : Nat → Nat) (g c : Nat) (l : List UInt8) : Prop where
  own : Own w 0 5 (.slice (some ⟨g, 0, none⟩) (l.length + 3) c) (bv (l ++ marks))
  og : o g = 0
theorem Rm.cap {g c : Nat} {l : List UInt8} (h : Rm w o g c l) : l.length + 3 ≤ c ∧ c ≤ maxLen ∧ g < w.heap.size := by
  rcases h.own.2 with ⟨h0, _⟩ | ⟨g', cap, cur, he, hb, hg, hn, hm, hs, ht⟩
  · cases h0
  · simp only [Value.slice.injEq, Option.some.injEq, Addr.mk.injEq, and_true] at he
    obtain ⟨rfl, h1, rfl⟩ := he
    exact ⟨by rw [h1]; exact hn, hm, (Array.getElem?_eq_some_iff.1 hg).1⟩
theorem Rm.fr {g c : Nat} {l : List UInt8} (h : Rm w o g c l) (k : Fr o [] w W) : Rm W o g c l := ⟨k.own h.own (fun b hb => by
  have : b = g := by simpa [ob, Value.ownBlock] using hb
  subst this; exact ⟨h.og, by simp⟩), h.og⟩
theorem bv_rep (m : Nat) (T : List UInt8) : bv (List.replicate m 0 ++ T) = List.replicate m (.int .u8 0) ++ bv T := by rw [bv_append]; simp [bv, bval]
theorem Rm.raw {g c : Nat} {l : List UInt8} (h : Rm w o g c l) : ∃ cur, w.heap[g]? = some (.cells cur 5 (0, 0)) ∧ cur.size = c ∧ l.length + 3 ≤ c := by
  rcases h.own.2 with ⟨h0, _⟩ | ⟨g', cap, cur, he, hb, hg, hn, hm, hs, ht⟩
  · cases h0
  · simp only [Value.slice.injEq, Option.some.injEq, Addr.mk.injEq, and_true] at he
    obtain ⟨rfl, h1, rfl⟩ := he
    exact ⟨cur, hg, by simpa using hs, by rw [h1]; exact hn⟩
theorem Rm.wiped {g c : Nat} {l : List UInt8} {cur : Array Value} (h : Rm w o g c l) (hcur : w.heap[g]? = some (.cells cur 5 (0, 0))) (hnew : W.heap[g]? = some (.cells (splice cur 0 (List.replicate l.length (bval 0))) 5 (0, 0))) :
    Rd W (.slice (some ⟨g, 0, none⟩) (l.length + 3) c) (bv (List.replicate l.length 0 ++ marks)) := by
  have hcap := h.cap.1
  have hrd := h.own.rd
  have hlen : (bv (List.replicate l.length 0 ++ marks)).length = l.length + 3 := by rw [bv_length]; simp [marks]
  refine ⟨some ⟨g, 0, none⟩, c, by rw [hlen], by rw [hlen]; exact hcap, (fun h => by cases h), fun a ha i u hu => ?_⟩
  cases ha
  rw [Addr.add_lit, cell_of_row W g _ _ _ _ hnew, Nat.zero_add]
  have hsz : cur.size = c := by
    obtain ⟨cur', h1, h2, _⟩ := h.raw
    rw [hcur] at h1
    simp only [Option.some.injEq, Obj.cells.injEq] at h1
    rw [h1.1]; exact h2
  have e : (splice cur 0 (List.replicate l.length (bval 0))).toList = List.replicate l.length (bval 0) ++ cur.toList.drop l.length := by
    rw [splice_toList]; simp
  rw [← Array.getElem?_toList, e]
  rw [bv_rep] at hu
  by_cases hi : i < l.length
  · rw [List.getElem?_append_left (by simpa using hi)] at hu ⊢
    exact hu
  · rw [List.getElem?_append_right (by simpa using Nat.le_of_not_lt hi)] at hu ⊢
    simp only [List.length_replicate] at hu ⊢
    have hi3 := (List.getElem?_eq_some_iff.1 hu).1
    have hm3 : (bv marks).length = 3 := rfl
    obtain ⟨b', off', ha', hx', hc'⟩ := hrd.at (k := i) (by omega)
    simp only [Option.some.injEq, Addr.mk.injEq] at ha'
    obtain ⟨rfl, rfl, _⟩ := ha'
    rw [cell_of_row w _ _ _ _ _ hcur, Nat.zero_add] at hc'
    rw [List.getElem?_drop, show l.length + (i - l.length) = i by omega, Array.getElem?_toList, hc']
    have h2 : (bv (l ++ marks))[i]? = some u := by
      rw [bv_append, List.getElem?_append_right (by rw [bv_length]; omega), bv_length]; exact hu
    rw [← h2, List.getElem?_eq_getElem hx']
theorem unhexL_len : ∀ (l : List UInt8), ((unhexL l).getD []).length ≤ l.length
  | [] => by simp [unhexL]
  | [_] => by simp [unhexL]
  | x :: y :: r => by
    have ih := unhexL_len r
    unfold unhexL
    split
    · cases h : unhexL r with
      | none => simp
      | some q => rw [h] at ih; simp at ih ⊢; omega
    · simp
/-- the slice ahead of the marks -/
theorem Rm.sub {g c : Nat} {l : List UInt8} (h : Rm w o g c l) : Rd w (.slice (some ⟨g, 0, none⟩) l.length c) (bv l) := by
  refine ⟨some ⟨g, 0, none⟩, c, by rw [bv_length], by rw [bv_length]; have := h.cap.1; omega, (fun h => by cases h), fun a ha i u hu => ?_⟩
  obtain ⟨ao, cap, he, _, _, h3⟩ := h.own.rd
  simp only [Value.slice.injEq] at he
  obtain ⟨rfl, _, rfl⟩ := he
  exact h3 a ha i u (by rw [bv_append, List.getElem?_append_left (List.getElem?_eq_some_iff.1 hu).1]; exact hu)
/-- the law's step, when both rooms are made (world w) -/
structure PB (w0 w : World) (o : Nat → Nat) (t : Nat) (M : Md) (vs : Nat → Value) (n b : Nat) (k wh nn : Int) (B C : Value) (S : ByteArray) (gx cx gy cy : Nat) (lb lc : List UInt8) : Prop where
  hX : WX w0 w o t (CM M) vs n
  bx : Bx w b k wh nn B C S
  ob : o b = 0
  nb : b ≠ gx
  rx : Rm w o gx cx lb
  ry : Rm w o gy cy lc
  ne : gx ≠ gy
  lx : w0.heap.size ≤ gx
  ly : w0.heap.size ≤ gy
  iB : Inp w o B lb
  iC : Inp w o C lc
  hlb : lb.length ≤ 1048576
  hlc : lc.length ≤ 1048576
  hn : n ≤ 800
theorem Inp.kp0 {v : Value} {l : List UInt8} (h : Inp w o v l) (k : Kp [] w W) : Inp W o v l := ⟨h.at (Fr.kp0 k), h.2⟩
theorem PB.mk' {M : Md} {b : Nat} {k wh nn : Int} {B C : Value} {S : ByteArray} {gx cx gy cy : Nat} {lb lc : List UInt8} {wb w1 w2 : World} (hX : WX w0 w o t (CM M) vs n) (kb : Kp [] w wb) (k1 : Kp [] wb w1) (k2 : Kp [] w1 w2) (bx : Bx w1 b k wh nn B C S) (ob : o b = 0) (hb : b < wb.heap.size)
    (rx : Own w1 wb.heap.size 5 (.slice (some ⟨gx, 0, none⟩) (lb.length + 3) cx) (bv (lb ++ marks))) (ry : Own w2 w1.heap.size 5 (.slice (some ⟨gy, 0, none⟩) (lc.length + 3) cy) (bv (lc ++ marks)))
    (iB : Inp w o B lb) (iC : Inp w o C lc) (hlb : lb.length ≤ 1048576) (hlc : lc.length ≤ 1048576) (hn : n ≤ 800) : PB w0 w2 o t M vs n b k wh nn B C S gx cx gy cy lb lc := by
  have hgx := rx.lt (b := gx) rfl
  have hgy := ry.lt (b := gy) rfl
  have kw1 := kb.trans0 k1
  have kw2 := kw1.trans0 k2
  have s1 := kb.size
  have s0 := hX.kp.size
  have s2 := k1.size
  exact ⟨hX.kp0 kw2, bx.kp k2 (by simp), ob, by omega, ⟨(rx.base (Nat.zero_le _)).kp0 k2, hX.new (by omega)⟩, ⟨ry.base (Nat.zero_le _), hX.new (by omega)⟩, by omega, by omega, by omega, iB.kp0 kw2, iC.kp0 kw2, hlb, hlc, hn⟩
theorem spoil_own {B g m c : Nat} {xs : List Value} (ho : Own w B 5 (.slice (some ⟨g, 0, none⟩) m c) xs) (hm : m ≤ 140737488355328) :
    Calls Try.prog 66 #[.slice (some ⟨g, 0, none⟩) m c] w fun e w' => e = .returned (.tuple #[]) ∧ Kp [g] w w' := by
  have hn := ho.rd.len
  rcases ho.2 with ⟨h0, _⟩ | ⟨g', cap, cur, he, hb, hg, hnc, hcm, hcs, ht⟩
  · cases h0
  simp only [Value.slice.injEq, Option.some.injEq, Addr.mk.injEq, and_true] at he
  obtain ⟨rfl, h1, rfl⟩ := he
  exact spoil_any g m c cur _ w hg (by omega) hm
theorem kept_same {x v : Value} {l : List UInt8} (hx : Rd w x (bv (l ++ marks))) (hv : Rd w v (bv l)) (hl : l.length ≤ 1048576) :
    Calls Try.prog 65 #[x, v] w fun e w' => e = .returned (.bool true) ∧ Kp [] w w' := by
  refine (kept_any x v (l ++ marks) l w hx hv (by omega)).mono ?_
  rintro e w' ⟨rfl, k⟩
  exact ⟨by simp, k⟩
/-- behind a step -/
def Stp (w0 : World) (t : Nat) (M : Md) (n : Nat) (e : Ending) (w' : World) : Prop :=
  e = .returned (.bool true) ∧ ∃ o' vs' n', WX w0 w' o' t (CM M) vs' n' ∧ n' ≤ n + 2
end
section
variable {w0 w W W1 W2 : World} {o o1 : Nat → Nat} {t n m : Nat} {C : Nat → Pr} {vs vs' : Nat → Value} {M : Md} {b : Nat} {k wh nn : Int} {B Cv : Value} {S : ByteArray} {gx cx gy cy : Nat} {lb lc : List UInt8}
/-- both rooms spoilt -/
theorem PB.fin (h : PB w0 w o t M vs n b k wh nn B Cv S gx cx gy cy lb lc) (hX : WX w0 W o1 t C vs' m) (hz : ∀ b, o b = 0 → b < w.heap.size → o1 b = 0) (k1 : Kp [gx] W W1) (k2 : Kp [gy] W1 W2) : WX w0 W2 o1 t C vs' m := by
  refine (hX.tmp k1 (fun b hb => ?_)).tmp k2 (fun b hb => ?_)
  · rw [List.mem_singleton] at hb; subst hb; exact ⟨hz _ h.rx.og h.rx.cap.2.2, h.lx⟩
  · rw [List.mem_singleton] at hb; subst hb; exact ⟨hz _ h.ry.og h.ry.cap.2.2, h.ly⟩
theorem PB.spx (h : PB w0 w o t M vs n b k wh nn B Cv S gx cx gy cy lb lc) (hF : Fr o [] w W) : Calls Try.prog 66 #[.slice (some ⟨gx, 0, none⟩) (lb.length + 3) cx] W fun e w' => e = .returned (.tuple #[]) ∧ Kp [gx] W w' := spoil_own (h.rx.fr hF).own (by have := h.hlb; omega)
theorem PB.spy (h : PB w0 w o t M vs n b k wh nn B Cv S gx cx gy cy lb lc) (hF : Fr o [] w W) (k1 : Kp [gx] W W1) : Calls Try.prog 66 #[.slice (some ⟨gy, 0, none⟩) (lc.length + 3) cy] W1 fun e w' => e = .returned (.tuple #[]) ∧ Kp [gy] W1 w' := by
  refine spoil_own ((h.ry.fr hF).own.kp k1 (fun b hb hm => ?_)) (by have := h.hlc; omega)
  rw [List.mem_singleton] at hm
  have : some gy = some b := hb
  injection this with h1
  exact h.ne (by omega)
theorem PB.kx (h : PB w0 w o t M vs n b k wh nn B Cv S gx cx gy cy lb lc) (hF : Fr o [] w W) : Calls Try.prog 65 #[.slice (some ⟨gx, 0, none⟩) (lb.length + 3) cx, B] W fun e w' => e = .returned (.bool true) ∧ Kp [] W w' := kept_same (h.rx.fr hF).own.rd (h.iB.at hF) h.hlb
theorem PB.ky (h : PB w0 w o t M vs n b k wh nn B Cv S gx cx gy cy lb lc) (hF : Fr o [] w W) : Calls Try.prog 65 #[.slice (some ⟨gy, 0, none⟩) (lc.length + 3) cy, Cv] W fun e w' => e = .returned (.bool true) ∧ Kp [] W w' := kept_same (h.ry.fr hF).own.rd (h.iC.at hF) h.hlc
theorem PB.bc (h : PB w0 w o t M vs n b k wh nn B Cv S gx cx gy cy lb lc) (hF : Fr o [] w W) : Bx W b k wh nn B Cv S := h.bx.fr hF h.ob
end
end Go.Proofs.Ytkceaepbjdfccaa
