/-
Plain facts: a field that was written is read; cut, it ends in ErrShort; behind a fault nothing moves. No program in sight.
-/
import Derived.Test.YtkceaepbjdfccaaFld3
namespace Go.Proofs.Ytkceaepbjdfccaa
theorem lo8_toNat (x : Int) : ((lo8 x).toNat : Int) = x % 256 := by
  unfold lo8
  rw [UInt8.toNat_ofNat']
  have h0 := Int.emod_nonneg x (by decide : (256 : Int) ≠ 0)
  have h1 := Int.emod_lt_of_pos x (by decide : (0 : Int) < 256)
  omega
theorem num8 (n : Int) (h0 : 0 ≤ n) (h1 : n < 256) : numL [lo8 n] = n := by
  simp only [numL, List.foldl_cons, List.foldl_nil, lo8_toNat]; omega
theorem num16 (n : Int) (h0 : 0 ≤ n) (h1 : n < 65536) : numL (be16 n) = n := by
  simp only [numL, be16, List.foldl_cons, List.foldl_nil, lo8_toNat]; omega
theorem num32 (n : Int) (h0 : 0 ≤ n) (h1 : n < 4294967296) : numL (be32 n) = n := by
  simp only [numL, be32, List.foldl_cons, List.foldl_nil, lo8_toNat]; omega
theorem field_ok (pre x post : List UInt8) (wh : Int) : fieldL (pre ++ x ++ post) ⟨pre.length, wh, 0⟩ 0 (x.length : Int) = (x, ⟨pre.length + x.length, wh, 0⟩) := by
  unfold fieldL
  rw [if_neg (by simp), if_neg (by omega), if_neg (by simp; omega)]
  simp [List.append_assoc]
theorem field_okn (pre x post : List UInt8) (wh : Int) (n : Int) (h : n = x.length) : fieldL (pre ++ x ++ post) ⟨pre.length, wh, 0⟩ 0 n = (x, ⟨pre.length + x.length, wh, 0⟩) := by subst h; exact field_ok pre x post wh
theorem field_short (c : List UInt8) (at_ : Nat) (wh n : Int) (ahead : Nat) (hn : 0 ≤ n) (h : (c.length : Int) - at_ - ahead < n) : fieldL c ⟨at_, wh, 0⟩ ahead n = ([], ⟨at_, at_, 10⟩) := by
  unfold fieldL
  rw [if_neg (by simp), if_neg (by omega), if_pos h]
theorem field_fault (c : List UInt8) (s : Rst) (a : Nat) (n : Int) (h : s.f ≠ 0) : fieldL c s a n = ([], s) := by unfold fieldL; rw [if_pos h]
theorem run_fault (c : List UInt8) (s : Rst) (m : Int) (h : s.f ≠ 0) : runL c s m = ([], s) := by unfold runL; rw [if_pos h]
theorem run_ok (pre x post : List UInt8) (wh : Int) (m : Int) (hx : x.length ≤ 65535) (hm : (x.length : Int) ≤ m) :
    runL (pre ++ (be16 (x.length : Int) ++ x) ++ post) ⟨pre.length, wh, 0⟩ m = (x, ⟨pre.length + (be16 (x.length : Int) ++ x).length, wh, 0⟩) := by
  have hn := num16 (x.length : Int) (by omega) (by omega)
  have hd : (List.drop pre.length (pre ++ (be16 (x.length : Int) ++ x) ++ post)).take 2 = be16 (x.length : Int) := by simp [List.append_assoc, be16]
  unfold runL
  simp only [hd, hn]
  rw [if_neg (by simp), if_neg (by simp [be16]; omega), if_neg (by omega)]
  unfold fieldL
  rw [if_neg (by simp), if_neg (by omega), if_neg (by simp [be16]; omega)]
  simp only [Int.toNat_natCast]
  refine Prod.ext ?_ ?_
  · have e : List.drop (pre.length + 2) pre = [] := List.drop_eq_nil_of_le (by omega)
    simp [List.append_assoc, be16, List.drop_append, e]
  · simp [be16]; omega
/-- a run that is cut -/
theorem run_short (pre x post : List UInt8) (wh : Int) (m : Int) (k : Nat) (hx : x.length ≤ 65535) (hm : (x.length : Int) ≤ m) (h0 : pre.length ≤ k) (h1 : k < pre.length + (be16 (x.length : Int) ++ x).length) :
    runL ((pre ++ (be16 (x.length : Int) ++ x) ++ post).take k) ⟨pre.length, wh, 0⟩ m = ([], ⟨pre.length, pre.length, 10⟩) := by
  have hn := num16 (x.length : Int) (by omega) (by omega)
  have hlen : ((pre ++ (be16 (x.length : Int) ++ x) ++ post).take k).length = k := by rw [List.length_take]; simp [be16] at h1 ⊢; omega
  unfold runL
  rw [if_neg (by simp)]
  by_cases h2 : k < pre.length + 2
  · rw [if_pos (by rw [hlen]; simp only; omega)]
  · rw [if_neg (by rw [hlen]; simp only; omega)]
    have hd : (List.drop pre.length ((pre ++ (be16 (x.length : Int) ++ x) ++ post).take k)).take 2 = be16 (x.length : Int) := by
      rw [List.drop_take, List.take_take, Nat.min_eq_left (by omega)]
      simp [List.append_assoc, be16]
    simp only [hd, hn]
    rw [if_neg (by omega), field_short _ _ _ _ _ (by omega) (by rw [hlen]; simp [be16] at h1; omega)]
theorem got_ok (pre post : List UInt8) (F : Fld) (wh : Int) : gotL (pre ++ enc F ++ post) ⟨pre.length, wh, 0⟩ F = (true, ⟨pre.length + (enc F).length, wh, 0⟩) := by
  obtain ⟨kind, n, b⟩ := F
  have hk : kind % 5 = 0 ∨ kind % 5 = 1 ∨ kind % 5 = 2 ∨ kind % 5 = 3 ∨ kind % 5 = 4 := by omega
  rcases hk with hk | hk | hk | hk | hk
  · rw [got0 hk, enc0 hk, field_okn _ _ _ _ 1 rfl, num8 _ (by omega) (by omega)]; simp
  · rw [got1 hk, enc1 hk, field_okn _ _ _ _ 2 rfl, num16 _ (by omega) (by omega)]; simp
  · rw [got2 hk, enc2 hk, field_okn _ _ _ _ 4 rfl, num32 _ (by omega) (by omega)]; simp
  · rw [got3 hk, enc3 hk, field_ok]; simp
  · have := sh_le b
    rw [got4 hk, enc4 hk, run_ok _ _ _ _ _ (by omega) (by omega)]; simp
theorem got_short (pre post : List UInt8) (F : Fld) (wh : Int) (k : Nat) (h0 : pre.length ≤ k) (h1 : k < pre.length + (enc F).length) :
    (gotL ((pre ++ enc F ++ post).take k) ⟨pre.length, wh, 0⟩ F).2 = ⟨pre.length, pre.length, 10⟩ := by
  obtain ⟨kind, n, b⟩ := F
  have hlen : ((pre ++ enc ⟨kind, n, b⟩ ++ post).take k).length = k := by rw [List.length_take, List.length_append, List.length_append]; omega
  have hk : kind % 5 = 0 ∨ kind % 5 = 1 ∨ kind % 5 = 2 ∨ kind % 5 = 3 ∨ kind % 5 = 4 := by omega
  rcases hk with hk | hk | hk | hk | hk
  · rw [got0 hk]; rw [enc0 hk] at h1 hlen ⊢; rw [field_short _ _ _ _ _ (by omega) (by rw [hlen]; simp at h1 ⊢; omega)]
  · rw [got1 hk]; rw [enc1 hk] at h1 hlen ⊢; rw [field_short _ _ _ _ _ (by omega) (by rw [hlen]; simp [be16] at h1 ⊢; omega)]
  · rw [got2 hk]; rw [enc2 hk] at h1 hlen ⊢; rw [field_short _ _ _ _ _ (by omega) (by rw [hlen]; simp [be32] at h1 ⊢; omega)]
  · rw [got3 hk]; rw [enc3 hk] at h1 hlen ⊢; rw [field_short _ _ _ _ _ (by omega) (by rw [hlen]; omega)]
  · have := sh_le b
    rw [got4 hk]; rw [enc4 hk] at h1 hlen ⊢; rw [run_short _ _ _ _ _ _ (by omega) (by omega) h0 h1]
theorem got_fault (c : List UInt8) (s : Rst) (F : Fld) (h : s.f ≠ 0) : (gotL c s F).2 = s := by
  unfold gotL
  rw [field_fault _ _ _ _ h, field_fault _ _ _ _ h, field_fault _ _ _ _ h, field_fault _ _ _ _ h, run_fault _ _ _ h]
  split
  · rfl
  · split
    · rfl
    · split
      · rfl
      · split <;> rfl
end Go.Proofs.Ytkceaepbjdfccaa
