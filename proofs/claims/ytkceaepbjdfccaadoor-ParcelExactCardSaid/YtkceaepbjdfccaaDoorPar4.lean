/-
parcel.read: the words, copy into a part's sum.
-/
import Derived.Test.YtkceaepbjdfccaaDoorPar3
import Derived.Laws.CopyOwn
import Derived.Laws.ResultCell
namespace Go.Proofs.YtkceaepbjdfccaaDoor
open Go.RowKit
theorem results_cell_row2 {P : Program} {fn : Func} {p u : Tmp} {ty : TypeId} (h : fn.results = #[.cell p ty, .tmp u]) (tmps : Array Value) (w : World) (g : Nat) (t : TypeId) (cs : Array Value) (fr : Nat × Nat) (d : TypeDesc)
    (hp : tmps.getD p undef = .pointer (some ⟨g, 0, none⟩)) (hg : w.heap[g]? = some (.cells cs t fr))
    (hu : P.underlying ty = some d) (hd : (match d with | .struct _ | .array _ _ => true | _ => false) = true) (hi : (P.info? ty).map (·.size) = some cs.size) :
    (results fn tmps).run P w = .ok (.tuple #[.agg cs, tmps.getD u undef]) w := by
  rw [results_cell_tmp h, hp]
  simp [asAddr, run_loadVar_row w g t ty cs fr d hg hu hd hi, Result.andThen]
/-- what the bytes of a part say -/
structure Prt where
  id : Int
  cnt : Int
  idx : Int
  sum : List UInt8
  cont : List UInt8
/-- a part's cells, the content in slice v -/
def pcl (id cnt idx : Int) (sum : List UInt8) (v : Value) : List Value := .int .u32 id :: .int .i64 cnt :: .int .i64 idx :: (bv sum ++ [v])
theorem pcl_len (id cnt idx : Int) (sum : List UInt8) (v : Value) (h : sum.length = 8) : (pcl id cnt idx sum v).length = 12 := by simp [pcl, bv_length, h]
def s8 : List UInt8 := List.replicate 8 0
def rs1 (b : List UInt8) : List UInt8 × Rst := fieldL b ⟨0, 0, 0⟩ 0 1
def rs2 (b : List UInt8) : List UInt8 × Rst := fieldL b (rs1 b).2 0 4
def rs3 (b : List UInt8) : List UInt8 × Rst := fieldL b (rs2 b).2 0 1
def rs4 (b : List UInt8) : List UInt8 × Rst := fieldL b (rs3 b).2 0 1
def rs5 (b : List UInt8) : List UInt8 × Rst := fieldL b (rs4 b).2 0 8
def rs6 (b : List UInt8) : List UInt8 × Rst := fieldL b (rs5 b).2 0 ((b.length : Int) - ((rs5 b).2.at_ : Int))
def prtOf (b : List UInt8) : Prt := ⟨numL (rs2 b).1, numL (rs3 b).1, numL (rs4 b).1, (rs5 b).1, (rs6 b).1⟩
/-- what read tells of any bytes -/
def readL (b : List UInt8) : Option Prt :=
  if (rs5 b).2.f ≠ 0 ∨ numL (rs1 b).1 ≠ 5 then none
  else if numL (rs3 b).1 < 1 ∨ 64 < numL (rs3 b).1 ∨ numL (rs3 b).1 ≤ numL (rs4 b).1 then none
  else if 497 < (rs6 b).1.length ∨ (numL (rs4 b).1 < numL (rs3 b).1 - 1 ∧ (rs6 b).1.length < 497) ∨ ((rs6 b).1.length = 0 ∧ 1 < numL (rs3 b).1) then none
  else some (prtOf b)
theorem fieldL_ok {b : List UInt8} {s : Rst} {a : Nat} {n : Int} (h : (fieldL b s a n).2.f = 0) : s.f = 0 ∧ 0 ≤ n ∧ ¬ (b.length : Int) - s.at_ - a < n ∧ fieldL b s a n = ((b.drop (s.at_ + a)).take n.toNat, ⟨s.at_ + a + n.toNat, s.wh, 0⟩) := by
  unfold fieldL at h ⊢
  split at h
  · rename_i h1; exact absurd h h1
  · rename_i h1
    split at h
    · cases h
    · rename_i h2
      split at h
      · cases h
      · rename_i h3
        rw [if_neg h1, if_neg h2, if_neg h3]
        exact ⟨by simpa using h1, by omega, h3, rfl⟩
theorem fieldL_n (b : List UInt8) (s : Rst) (a : Nat) (n : Int) : (fieldL b s a n).1.length ≤ n.toNat := by
  unfold fieldL
  split
  · simp
  · split
    · simp
    · split
      · simp
      · exact List.length_take_le _ _
theorem rs5_len {b : List UInt8} (h : (rs5 b).2.f = 0) : (rs5 b).1.length = 8 := by
  obtain ⟨_, _, h3, h4⟩ := fieldL_ok (show (fieldL b (rs4 b).2 0 8).2.f = 0 from h)
  show (fieldL b (rs4 b).2 0 8).1.length = 8
  rw [h4]
  simp only [List.length_take, List.length_drop]
  omega
theorem el_bytB : Tryd.prog.underlying 27 = some (.slice 5) := by kernel_rfl
/-- copy of at most eight bytes into the sum of a part -/
theorem run_copy8 {w : World} {P : Nat} {cs : List Value} {T : TypeId} {ss : Value} {l : List UInt8} (ty : TypeId) (hP : w.heap[P]? = some (.cells cs.toArray T (0, 0))) (hcs : cs.length = 12) (hs : Rd w ss (bv l)) (hl : l.length ≤ 8) :
    ∃ w', (Builtin.copy_ #[27, 27] ty #[.slice (some ⟨P, 3, none⟩) 8 8, ss]).run Tryd.prog w = .ok (goInt l.length) w' ∧ w'.heap[P]? = some (.cells (Go.splice cs 3 (bv l)).toArray T (0, 0)) ∧ Kp [P] w w' := by
  obtain ⟨ao, cap, rfl⟩ := hs.form
  rw [bv_length] at hs ⊢
  by_cases h0 : l.length = 0
  · obtain rfl := List.eq_nil_of_length_eq_zero h0
    exact ⟨w, run_copy_none (P := Tryd.prog) w _ _ ty 5 _ _ 8 8 _ cap el_bytB (by kernel_rfl) rfl, by simpa [Go.splice, bv] using hP, Kp.refl _ _⟩
  · obtain ⟨b, off, hao, _⟩ := hs.byte (k := 0) (by omega)
    subst hao
    have hcell : ∀ j v, (bv l)[j]? = some v → w.cell? ((⟨b, off, none⟩ : Addr).add j) = some v := by
      obtain ⟨ao', cap', he, _, _, hh⟩ := hs
      have hao : some (⟨b, off, none⟩ : Addr) = ao' := (Value.slice.inj he).1
      exact hh _ hao.symm
    have hr := run_copy_row (P := Tryd.prog) w 27 27 ty 5 P 3 8 8 ⟨b, off, none⟩ l.length cap cs.toArray T (bv l) el_bytB (by kernel_rfl) hP (by rw [bv_length]; show _ = min _ _; omega) hcell (by rw [bv_length, List.size_toArray]; omega) (bv_oneCell l)
    rw [bv_length] at hr
    have hsp : (cs.toArray.toList.take 3 ++ bv l ++ cs.toArray.toList.drop (3 + l.length)).toArray = (Go.splice cs 3 (bv l)).toArray := by unfold Go.splice; rw [bv_length, List.append_assoc]
    rw [hsp] at hr
    exact ⟨_, hr, setRow_heap w P _ _ T _ hP, kp_setRow w P _⟩
theorem splice_pcl (id cnt idx : Int) (sum l : List UInt8) (v : Value) (h : sum.length = 8) (hl : l.length = 8) : Go.splice (pcl id cnt idx sum v) 3 (bv l) = pcl id cnt idx l v := by
  unfold Go.splice pcl
  have e : (bv sum).length = 8 := by rw [bv_length, h]
  have e2 : (bv l).length = 8 := by rw [bv_length, hl]
  simp [e2, e]
theorem splice_len (cs : List Value) (l : List UInt8) (h : cs.length = 12) (hl : l.length ≤ 8) : (Go.splice cs 3 (bv l)).length = 12 := by
  rw [Go.length_splice _ _ _ (by rw [bv_length]; omega), h]
/-- a reader of b, and a part in block P with these cells -/
structure RS (w W : World) (P : Nat) (cs : List Value) (p : Nat) (rv : Value) (b : List UInt8) (s : Rst) : Prop where
  k : Kp [] w W
  hP : W.heap[P]? = some (.cells cs.toArray 101 (0, 0))
  hl : w.heap.size ≤ P
  hlt : P < p
  r : Rr W (w.heap.size + 1) p rv b s
theorem RS.next {w W W' : World} {P : Nat} {cs : List Value} {p : Nat} {rv : Value} {b : List UInt8} {s s' : Rst} (h : RS w W P cs p rv b s) (hr : Rr W' (w.heap.size + 1) p rv b s') (k : Kp [p] W W') : RS w W' P cs p rv b s' :=
  ⟨h.k.trans k (fun m hm => by rw [List.mem_singleton] at hm; have := h.hl; have := h.hlt; omega), k.heap h.hP (by have := h.hlt; simp; omega), h.hl, h.hlt, hr⟩
theorem RS.keep {w W W' : World} {P : Nat} {cs : List Value} {p : Nat} {rv : Value} {b : List UInt8} {s : Rst} (h : RS w W P cs p rv b s) (k : Kp [] W W') : RS w W' P cs p rv b s :=
  ⟨h.k.trans0 k, k.heap h.hP (by simp), h.hl, h.hlt, h.r.kp0 k⟩
theorem RS.put {w W W' : World} {P : Nat} {cs cs' : List Value} {p : Nat} {rv : Value} {b : List UInt8} {s : Rst} (h : RS w W P cs p rv b s) (k : Kp [P] W W') (hc : W'.heap[P]? = some (.cells cs'.toArray 101 (0, 0)))
    (hne : ∀ g ∈ ob rv, g ≠ P) : RS w W' P cs' p rv b s :=
  ⟨h.k.trans k (fun m hm => by rw [List.mem_singleton] at hm; have := h.hl; omega), hc, h.hl, h.hlt, h.r.kp k (by have := h.hlt; simp; omega) (fun g hg => by rw [List.mem_singleton]; exact hne g hg)⟩
end Go.Proofs.YtkceaepbjdfccaaDoor
