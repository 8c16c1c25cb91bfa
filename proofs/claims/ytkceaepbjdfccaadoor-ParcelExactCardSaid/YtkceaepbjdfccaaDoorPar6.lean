/-
A tray's map: its entries in the order in which they came; what a look-up, a store, a deletion and len come to.
-/
import Derived.Test.YtkceaepbjdfccaaDoorPar5
import Derived.DeepKeys4
import Derived.Maps.RangeWalk
namespace Go.Proofs.YtkceaepbjdfccaaDoor
open Go.RowKit
open Go.Maps (Keyed)
open Go.ChangeMaps (setBlock heap_setBlock_same heap_setBlock_other)
/-- a key: whose, which -/
abbrev Ky : Type := List UInt8 × Int
def kv (k : Ky) : Value := .agg #[.string (strOf k.1), .int .u32 k.2]
def pv (b : Nat) : Value := .pointer (some ⟨b, 0, none⟩)
def Kok (k : Ky) : Prop := k.1.length ≤ 140737488355327 ∧ 0 ≤ k.2 ∧ k.2 < 4294967296
theorem kv_inj {a b : Ky} (h : kv a = kv b) : a = b := by
  simp only [kv, Value.agg.injEq, Array.mk.injEq, List.cons.injEq, Value.string.injEq, Value.int.injEq, true_and, and_true] at h
  exact Prod.ext (strOf_inj h.1) h.2
theorem laidOutP : laidOutB Tryd.prog = true := by kernel_rfl
theorem nameKeyed : Keyed Tryd.prog 105 := Keyed.of_law (deep_law_laid laidOutP (m := 2) (by omega) (of_decide_eq_true (by kernel_rfl)) (by kernel_rfl) (by rw [Tryd.underlying105]))
theorem keyType_name : Tryd.prog.keyType 105 = true := by kernel_rfl
theorem cellsOf_name : Tryd.prog.cellsOf 105 = 2 := by kernel_rfl
theorem cellsOf_str : Tryd.prog.cellsOf 9 = 1 := by kernel_rfl
theorem cellsOf_u32 : Tryd.prog.cellsOf 48 = 1 := by kernel_rfl
theorem size_types : ∃ n, Tryd.prog.types.size = n + 1 := ⟨Tryd.prog.types.size - 1, by have : 0 < Tryd.prog.types.size := of_decide_eq_true (by kernel_rfl); omega⟩
theorem wf_u32 {n : Int} (h0 : 0 ≤ n) (h1 : n < 4294967296) : (Lit.int .u32 n).wf = true := by
  exact WalkArith.wf_u32 (by omega)
theorem key_reads (k : Ky) (h : Kok k) : ∃ l, keyOf Tryd.prog 105 (kv k) = some l := by
  obtain ⟨n, hn⟩ := size_types
  have h1 : (strOf k.1).size ≤ maxLen := by rw [strOf_size]; unfold maxLen; have := h.1; omega
  have h2 := wf_u32 h.2.1 h.2.2
  unfold keyOf
  rw [Tryd.underlying105]
  have hf : (kv k).formed Tryd.prog 105 = true := by simp [kv, Value.formed, Tryd.underlying105, cellsOf_name]
  simp only [keyType_name, hf, Bool.and_self, if_true]
  rw [hn]
  simp [Program.keyLits, Tryd.underlying105, kv, Value.cells, cellsOf_name, cellsOf_str, cellsOf_u32, Tryd.underlying9, Tryd.underlying48, h1, h2]
/-- block B is a map of these entries, in this order -/
structure MapIs (w : World) (B : Nat) (K : List (Ky × Nat)) : Prop where
  ex : ∃ (es : Array MapEntry) (clock : Nat), w.heap[B]? = some (.map es clock) ∧ es.toList.map (fun e => (e.key, e.val)) = K.map (fun k => (kv k.1, pv k.2)) ∧ (∀ e ∈ es.toList, e.born < clock) ∧ (es.toList.map (·.born)).Nodup
  ok : ∀ k ∈ K, Kok k.1
  nd : (K.map (·.1)).Nodup
theorem MapIs.kp {w w' : World} {L : List Nat} {B : Nat} {K : List (Ky × Nat)} (h : MapIs w B K) (k : Kp L w w') (hn : B ∉ L) : MapIs w' B K := by
  obtain ⟨es, c, hb, r⟩ := h.ex
  exact ⟨⟨es, c, k.heap hb hn, r⟩, h.ok, h.nd⟩
theorem MapIs.made (w : World) : MapIs (w.alloc (.map #[] 0)) w.heap.size [] :=
  ⟨⟨#[], 0, heap_alloc_new w _, rfl, by simp, by simp⟩, by simp, by simp⟩
/-- the block at a key -/
def lookK (K : List (Ky × Nat)) (k : Ky) : Option Nat := (K.find? (fun x => x.1 == k)).map (·.2)
def delK (K : List (Ky × Nat)) (k : Ky) : List (Ky × Nat) := K.filter (fun x => x.1 != k)
def ptr : Option Nat → Value
  | none => .pointer none
  | some b => pv b
theorem lookK_none {K : List (Ky × Nat)} {k : Ky} (h : ∀ x ∈ K, x.1 ≠ k) : lookK K k = none := by
  unfold lookK
  rw [List.find?_eq_none.2 (fun x hx => by simpa using h x hx)]
  rfl
theorem lookK_some {K : List (Ky × Nat)} {k : Ky} {b j : Nat} (hj : K[j]? = some (k, b)) (nd : (K.map (·.1)).Nodup) : lookK K k = some b := by
  unfold lookK
  induction K generalizing j with
  | nil => simp at hj
  | cons a r ih =>
    rw [List.map_cons, List.nodup_cons] at nd
    cases j with
    | zero => cases hj; simp
    | succ j =>
      rw [List.getElem?_cons_succ] at hj
      have hm : k ∈ r.map (·.1) := List.mem_map.2 ⟨_, List.mem_of_getElem? hj, rfl⟩
      have hne : (a.1 == k) = false := by
        rw [beq_eq_false_iff_ne]
        intro e
        rw [e] at nd
        exact nd.1 hm
      rw [List.find?_cons_of_neg (by simp [hne])]
      exact ih hj nd.2
theorem delK_none {K : List (Ky × Nat)} {k : Ky} (h : ∀ x ∈ K, x.1 ≠ k) : delK K k = K := by
  unfold delK
  exact List.filter_eq_self.2 (fun x hx => by simpa using h x hx)
theorem delK_some {K : List (Ky × Nat)} {k : Ky} {b j : Nat} (hj : K[j]? = some (k, b)) (nd : (K.map (·.1)).Nodup) : delK K k = K.eraseIdx j := by
  unfold delK
  induction K generalizing j with
  | nil => simp at hj
  | cons a r ih =>
    rw [List.map_cons, List.nodup_cons] at nd
    cases j with
    | zero =>
      cases hj
      rw [List.filter_cons_of_neg (by simp)]
      exact List.filter_eq_self.2 (fun x hx => by
        have : x.1 ≠ k := fun e => nd.1 (List.mem_map.2 ⟨x, hx, e⟩)
        simpa using this)
    | succ j =>
      rw [List.getElem?_cons_succ] at hj
      have hm : k ∈ r.map (·.1) := List.mem_map.2 ⟨_, List.mem_of_getElem? hj, rfl⟩
      have hne : a.1 ≠ k := by
        intro e
        rw [e] at nd
        exact nd.1 hm
      rw [List.filter_cons_of_pos (by simpa using hne), List.eraseIdx_cons_succ, ih hj nd.2]
theorem ents_at {es : List MapEntry} {K : List (Ky × Nat)} (h : es.map (fun e => (e.key, e.val)) = K.map (fun k => (kv k.1, pv k.2))) {j : Nat} {e : MapEntry} (he : es[j]? = some e) : ∃ k, K[j]? = some k ∧ e.key = kv k.1 ∧ e.val = pv k.2 := by
  have h1 := congrArg (fun l => l[j]?) h
  simp only [List.getElem?_map, he, Option.map_some] at h1
  cases hk : K[j]? with
  | none => rw [hk] at h1; simp at h1
  | some k =>
    rw [hk] at h1
    simp only [Option.map_some, Option.some.injEq, Prod.mk.injEq] at h1
    exact ⟨k, rfl, h1.1, h1.2⟩
theorem ents_mem {es : List MapEntry} {K : List (Ky × Nat)} (h : es.map (fun e => (e.key, e.val)) = K.map (fun k => (kv k.1, pv k.2))) {k : Ky × Nat} (hk : k ∈ K) : ∃ e ∈ es, e.key = kv k.1 ∧ e.val = pv k.2 := by
  have h1 : (kv k.1, pv k.2) ∈ es.map (fun e => (e.key, e.val)) := by rw [h]; exact List.mem_map.2 ⟨k, hk, rfl⟩
  obtain ⟨e, he, e1⟩ := List.mem_map.1 h1
  simp only [Prod.mk.injEq] at e1
  exact ⟨e, he, e1.1, e1.2⟩
theorem ents_len {es : List MapEntry} {K : List (Ky × Nat)} (h : es.map (fun e => (e.key, e.val)) = K.map (fun k => (kv k.1, pv k.2))) : es.length = K.length := by
  have := congrArg List.length h
  simpa using this
/-- the search for a key -/
theorem find_ents {w : World} {es : List MapEntry} {K : List (Ky × Nat)} (h : es.map (fun e => (e.key, e.val)) = K.map (fun k => (kv k.1, pv k.2))) (ok : ∀ k ∈ K, Kok k.1) {k : Ky} (hk : Kok k) :
    ((Instr.findKey 105 (kv k) es).run Tryd.prog w = .ok none w ∧ (∀ x ∈ K, x.1 ≠ k) ∧ ∀ e ∈ es, e.key ≠ kv k) ∨
    ∃ j b e, (Instr.findKey 105 (kv k) es).run Tryd.prog w = .ok (some (j, pv b)) w ∧ K[j]? = some (k, b) ∧ es[j]? = some e ∧ e.key = kv k ∧ e.val = pv b := by
  obtain ⟨l, hl⟩ := key_reads k hk
  have hks : ∀ e ∈ es, ∃ l, keyOf Tryd.prog 105 e.key = some l := fun e he => by
    obtain ⟨j, hj⟩ := List.getElem?_of_mem he
    obtain ⟨k', hk', e1, _⟩ := ents_at h hj
    rw [e1]
    exact key_reads _ (ok _ (List.mem_of_getElem? hk'))
  rcases nameKeyed.find w hl es hks with ⟨h1, h2⟩ | ⟨j, e, h1, h2, h3⟩
  · refine .inl ⟨h1, fun x hx ex => ?_, h2⟩
    obtain ⟨e, he, e1, _⟩ := ents_mem h hx
    exact h2 e he (by rw [e1, ex])
  · obtain ⟨k', hk', e1, e2⟩ := ents_at h h2
    have : k'.1 = k := kv_inj (by rw [← e1, h3])
    obtain ⟨kk, b⟩ := k'
    simp only at this
    subst this
    exact .inr ⟨j, b, e, by rw [h1, e2], hk', h2, h3, e2⟩
theorem MapIs.lookup {w : World} {B : Nat} {K : List (Ky × Nat)} (h : MapIs w B K) {k : Ky} (hk : Kok k) : (Instr.lookup 97 (.map (some B)) (kv k) false).run Tryd.prog w = .ok (ptr (lookK K k)) w := by
  obtain ⟨es, c, hb, he, _, _⟩ := h.ex
  obtain ⟨l, hl⟩ := key_reads k hk
  rcases find_ents (w := w) he h.ok hk with ⟨h1, h2, _⟩ | ⟨j, b, e, h1, h2, _⟩
  · rw [lookK_none h2]
    simp [Instr.lookup, run_underlying Tryd.underlying97, MapKept.run_getObj_map hb, nameKeyed.check w _ hl, h1, Result.andThen, ptr]
  · rw [lookK_some h2 h.nd]
    simp [Instr.lookup, run_underlying Tryd.underlying97, MapKept.run_getObj_map hb, nameKeyed.check w _ hl, h1, Result.andThen, ptr]
theorem MapIs.len {w : World} {B : Nat} {K : List (Ky × Nat)} (h : MapIs w B K) (ty : TypeId) : (Builtin.len_ #[97] ty #[.map (some B)]).run Tryd.prog w = .ok (.int .i64 K.length) w := by
  obtain ⟨es, c, hb, he, _, _⟩ := h.ex
  have hl := ents_len he
  simp [Builtin.len_, run_underlying Tryd.underlying97, MapKept.run_getObj_map hb, goInt, Result.andThen]
  rw [← hl]; simp
theorem kp_setBlock {w : World} {B : Nat} {es : Array MapEntry} {c : Nat} (hb : w.heap[B]? = some (.map es c)) (o : Obj) : Kp [B] w (setBlock w B o) :=
  ⟨rfl, rfl, rfl, by simp [setBlock], fun k _ hn => heap_setBlock_other hb o (by simpa using hn)⟩
theorem MapIs.upd_new {w : World} {B : Nat} {K : List (Ky × Nat)} (h : MapIs w B K) {k : Ky} (hk : Kok k) (b : Nat) (hn : lookK K k = none) :
    ∃ w', (Instr.mapUpdate 97 (.map (some B)) (kv k) (pv b)).run Tryd.prog w = .ok () w' ∧ MapIs w' B (K ++ [(k, b)]) ∧ Kp [B] w w' := by
  obtain ⟨es, c, hb, he, hs, hnd⟩ := h.ex
  obtain ⟨l, hl⟩ := key_reads k hk
  rcases find_ents (w := w) he h.ok hk with ⟨h1, h2, _⟩ | ⟨j, b', e, h1, h2, _⟩
  · refine ⟨setBlock w B (.map (es.push ⟨kv k, pv b, c⟩) (c + 1)), ?_, ⟨⟨_, _, heap_setBlock_same hb _, ?_, ?_, ?_⟩, ?_, ?_⟩, kp_setBlock hb _⟩
    · simp [Instr.mapUpdate, run_underlying Tryd.underlying97, MapKept.run_getObj_map hb, nameKeyed.check w false hl, h1, MapKept.run_setObj_map _ hb, Result.andThen, setBlock]
    · rw [Array.toList_push, List.map_append, List.map_append, he]; rfl
    · intro e he'
      rw [Array.toList_push, List.mem_append, List.mem_singleton] at he'
      rcases he' with he' | rfl
      · have := hs e he'; omega
      · exact Nat.lt_succ_self _
    · rw [Array.toList_push, List.map_append, List.nodup_append]
      refine ⟨hnd, by simp, fun a ha b hb => ?_⟩
      obtain ⟨e, he', rfl⟩ := List.mem_map.1 ha
      rw [List.map_singleton, List.mem_singleton] at hb
      have h3 := hs e he'
      have h4 : b = c := hb
      rw [h4]
      exact Nat.ne_of_lt h3
    · intro x hx
      rw [List.mem_append, List.mem_singleton] at hx
      rcases hx with hx | rfl
      · exact h.ok x hx
      · exact hk
    · rw [List.map_append, List.nodup_append]
      refine ⟨h.nd, by simp, fun a ha b hb => ?_⟩
      obtain ⟨x, hx, rfl⟩ := List.mem_map.1 ha
      rw [List.map_singleton, List.mem_singleton] at hb
      subst hb
      exact h2 x hx
  · rw [lookK_some h2 h.nd] at hn
    cases hn
theorem MapIs.upd_old {w : World} {B : Nat} {K : List (Ky × Nat)} (h : MapIs w B K) {k : Ky} (hk : Kok k) (b : Nat) (hn : lookK K k = some b) :
    ∃ w', (Instr.mapUpdate 97 (.map (some B)) (kv k) (pv b)).run Tryd.prog w = .ok () w' ∧ MapIs w' B K ∧ Kp [B] w w' := by
  obtain ⟨es, c, hb, he, hs, hnd⟩ := h.ex
  obtain ⟨l, hl⟩ := key_reads k hk
  rcases find_ents (w := w) he h.ok hk with ⟨h1, h2, _⟩ | ⟨j, b', e, h1, h2, h3, h4, h5⟩
  · rw [lookK_none h2] at hn
    cases hn
  · rw [lookK_some h2 h.nd] at hn
    cases hn
    have hj : es[j]? = some e := by simpa using h3
    have hlist : (es.modify j (fun e' => { e' with key := kv k, val := pv b })).toList = es.toList := by
      rw [Array.toList_modify, Go.ChangeMaps.modify_eq_set _ _ _ _ h3]
      apply List.ext_getElem?
      intro i
      rw [List.getElem?_set]
      split
      · rename_i hi
        subst hi
        have hlt := (List.getElem?_eq_some_iff.1 h3).1
        rw [if_pos hlt, h3, ← h4, ← h5]
      · rfl
    refine ⟨setBlock w B (.map (es.modify j (fun e' => { e' with key := kv k, val := pv b })) c), ?_, ⟨⟨_, _, heap_setBlock_same hb _, by rw [hlist]; exact he, by rw [hlist]; exact hs, by rw [hlist]; exact hnd⟩, h.ok, h.nd⟩, kp_setBlock hb _⟩
    simp [Instr.mapUpdate, run_underlying Tryd.underlying97, MapKept.run_getObj_map hb, nameKeyed.check w false hl, h1, hj, h4, nameKeyed.stays w hl, MapKept.run_setObj_map _ hb, Result.andThen, setBlock]
theorem MapIs.del {w : World} {B : Nat} {K : List (Ky × Nat)} (h : MapIs w B K) {k : Ky} (hk : Kok k) (ty : TypeId) :
    ∃ w', (Builtin.delete_ #[97, 105] ty #[.map (some B), kv k]).run Tryd.prog w = .ok (.tuple #[]) w' ∧ MapIs w' B (delK K k) ∧ Kp [B] w w' := by
  obtain ⟨es, c, hb, he, hs, hnd⟩ := h.ex
  obtain ⟨l, hl⟩ := key_reads k hk
  have hok : ∀ x ∈ delK K k, Kok x.1 := fun x hx => h.ok x (List.mem_filter.1 hx).1
  have hndK : ((delK K k).map (·.1)).Nodup := h.nd.sublist (List.filter_sublist.map _)
  rcases find_ents (w := w) he h.ok hk with ⟨h1, h2, _⟩ | ⟨j, b', e, h1, h2, h3, h4, h5⟩
  · refine ⟨setBlock w B (.map es c), ?_, ⟨⟨_, _, heap_setBlock_same hb _, by rw [delK_none h2]; exact he, hs, hnd⟩, hok, hndK⟩, kp_setBlock hb _⟩
    simp [Builtin.delete_, run_underlying Tryd.underlying97, MapKept.run_getObj_map hb, nameKeyed.check w _ hl, h1, MapKept.run_setObj_map _ hb, Result.andThen, setBlock]
  · have hjs : j < es.size := by simpa using (List.getElem?_eq_some_iff.1 h3).1
    have hsub : (es.eraseIdxIfInBounds j).toList = es.toList.eraseIdx j := by
      unfold Array.eraseIdxIfInBounds
      rw [dif_pos hjs]
      simp
    refine ⟨setBlock w B (.map (es.eraseIdxIfInBounds j) c), ?_, ⟨⟨_, _, heap_setBlock_same hb _, ?_, ?_, ?_⟩, hok, hndK⟩, kp_setBlock hb _⟩
    · simp [Builtin.delete_, run_underlying Tryd.underlying97, MapKept.run_getObj_map hb, nameKeyed.check w _ hl, h1, MapKept.run_setObj_map _ hb, Result.andThen, setBlock]
    · rw [hsub, delK_some h2 h.nd, Go.ChangeMaps.map_eraseIdx, Go.ChangeMaps.map_eraseIdx, he]
    · intro e' he'
      rw [hsub] at he'
      exact hs e' (List.mem_of_mem_eraseIdx he')
    · rw [hsub]
      exact hnd.sublist ((List.eraseIdx_sublist _ _).map _)
end Go.Proofs.YtkceaepbjdfccaaDoor
