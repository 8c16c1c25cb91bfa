/-
Arrays of bytes, compared.
-/
import Derived.Test.YtkceaepbjdfccaaProg
import Derived.Test.YtkceaepbjdfccaaBase
import Derived.Laws.StructEq
namespace Go.Proofs.Ytkceaepbjdfccaa
open Go.RowKit
/-- numbers as bytes -/
def iv (l : List Int) : List Value := l.map (Value.int .u8)
theorem iv_length (l : List Int) : (iv l).length = l.length := by simp [iv]
theorem iv_append (l m : List Int) : iv (l ++ m) = iv l ++ iv m := by simp [iv]
theorem iv_one (l : List Int) : ∀ v ∈ iv l, v.oneCell' = true := by
  intro v hv
  obtain ⟨x, _, rfl⟩ := List.mem_map.1 hv
  rfl
theorem iv_get (l : List Int) (i : Nat) (h : i < l.length) : (iv l)[i]? = some (.int .u8 (l.getD i 0)) := by
  rw [iv, List.getElem?_map, List.getElem?_eq_getElem h, List.getD_eq_getElem?_getD, List.getElem?_eq_getElem h]; rfl
theorem run_part (l : List Int) (i : Nat) (h : i < l.length) (W : World) : (part 5 (iv l).toArray i).run Try.prog W = .ok (.int .u8 (l.getD i 0)) W := by
  have hag : (isAgg 5).run Try.prog W = .ok false W := by kernel_rfl
  unfold part
  simp only [Sem.run_bind, hag, Result.andThen_ok, Bool.false_eq_true, if_false, List.getElem?_toArray, iv_get l i h, Sem.run_pure]
theorem run_eq_loop (d : Nat) (xs ys : List Int) (hl : xs.length = ys.length) (W : World) : ∀ L : List Nat, (∀ i ∈ L, i < xs.length) →
    (forIn (m := Sem) L ((none, ()) : Option Bool × Unit) fun i _ => do
            let a ← part 5 (iv xs).toArray (i * 1)
            let b ← part 5 (iv ys).toArray (i * 1)
            let r ← Op.equalIn (d + 1) 5 a b
            if (!r) = true then pure (ForInStep.done (some false, ())) else pure (ForInStep.yield (none, ()))).run Try.prog W =
      .ok (if ∀ i ∈ L, xs.getD i 0 = ys.getD i 0 then (none, ()) else (some false, ())) W
  | [], _ => by simp
  | i :: L, h => by
    have hi : i < xs.length := h i (by simp)
    have ih := run_eq_loop d xs ys hl W L (fun j hj => h j (by simp [hj]))
    have he := run_equalIn_int (P := Try.prog) W d 5 .u8 .u8 (xs.getD i 0) (ys.getD i 0) Try.underlying5
    simp only [List.forIn_cons, Sem.run_bind, Nat.mul_one, run_part xs i hi W, run_part ys i (by omega) W, Result.andThen_ok, he]
    by_cases e : xs.getD i 0 = ys.getD i 0
    · have eb : (xs.getD i 0 == ys.getD i 0) = true := by simpa using e
      simp only [eb, Bool.not_true, Bool.false_eq_true, if_false, Sem.run_pure, Result.andThen_ok]
      have ih' := ih
      simp only [Nat.mul_one] at ih'
      rw [ih']
      simp only [List.mem_cons, forall_eq_or_imp, e, true_and]
    · have eb : (xs.getD i 0 == ys.getD i 0) = false := by simpa using e
      simp only [eb, Bool.not_false, if_true, Sem.run_pure, Result.andThen_ok]
      rw [if_neg (fun h => e (h i (by simp)))]
theorem run_eq_bytes (d n : Nat) (t : TypeId) (xs ys : List Int) (hx : xs.length = n) (hy : ys.length = n) (ht : Try.prog.underlying t = some (.array n 5)) (W : World) :
    (Op.equalIn (d + 2) t (.agg (iv xs).toArray) (.agg (iv ys).toArray)).run Try.prog W = .ok (decide (xs = ys)) W := by
  have hsz : (sizeOf 5).run Try.prog W = .ok 1 W := by kernel_rfl
  rw [Op.equalIn]
  simp only [Sem.run_bind, run_underlying ht, Result.andThen_ok, hsz]
  rw [Std.Legacy.Range.forIn_eq_forIn_range']
  rw [run_eq_loop d xs ys (by omega) W _ (fun i hi => by
    rw [List.mem_range'] at hi
    obtain ⟨j, hj, rfl⟩ := hi
    simp [Std.Legacy.Range.size] at hj ⊢
    omega)]
  have hiff : (∀ i ∈ List.range' [:n].start [:n].size [:n].step, xs.getD i 0 = ys.getD i 0) ↔ xs = ys := by
    constructor
    · intro h
      apply List.ext_getElem?
      intro i
      by_cases hi : i < n
      · have h1 := h i (by rw [List.mem_range']; exact ⟨i, by simp [Std.Legacy.Range.size]; exact hi, by simp⟩)
        rw [List.getD_eq_getElem?_getD, List.getD_eq_getElem?_getD, List.getElem?_eq_getElem (by omega), List.getElem?_eq_getElem (by omega)] at h1
        rw [List.getElem?_eq_getElem (by omega), List.getElem?_eq_getElem (by omega)]
        exact congrArg some h1
      · rw [List.getElem?_eq_none (by omega), List.getElem?_eq_none (by omega)]
    · rintro rfl i _; rfl
  by_cases h : xs = ys
  · rw [if_pos (hiff.2 h)]
    simp [h]
  · rw [if_neg (fun h' => h (hiff.1 h'))]
    simp [h]
end Go.Proofs.Ytkceaepbjdfccaa
