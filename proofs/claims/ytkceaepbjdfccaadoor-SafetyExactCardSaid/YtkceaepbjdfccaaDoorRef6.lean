/-
Plain laws: a hash is whole blocks, one behind the other; a word as four bytes, the lowest first.
-/
import Derived.Test.YtkceaepbjdfccaaDoorRef5
import Derived.Test.YtkceaepbjdfccaaDoorHalf1
namespace Go.Proofs.YtkceaepbjdfccaaDoor
open Go.RowKit
/-- the state behind so many blocks -/
def cmpN (kk bg m : List Int) : Nat → List Int
  | 0 => bg
  | i + 1 => comp kk (cmpN kk bg m i) (blk m i)
theorem cmpN_len (kk bg m : List Int) : ∀ i, (cmpN kk bg m i).length = bg.length
  | 0 => rfl
  | i + 1 => by rw [cmpN, comp_len]; exact cmpN_len kk bg m i
theorem w32_fin8 {st : List Int} (h : ∀ x ∈ st, W32 x) (v : List Int) : ∀ j, ∀ x ∈ fin8 st v j, W32 x
  | 0 => h
  | j + 1 => w32_set (w32_fin8 h v j) (w32_mod _) j
theorem w32_comp {kk st bl : List Int} (h : ∀ x ∈ st, W32 x) : ∀ x ∈ comp kk st bl, W32 x := w32_fin8 h _ 8
theorem w32_cmpN {kk bg m : List Int} (h : ∀ x ∈ bg, W32 x) : ∀ i, ∀ x ∈ cmpN kk bg m i, W32 x
  | 0 => h
  | i + 1 => w32_comp (w32_cmpN h i)
theorem blk_len {m : List Int} {i : Nat} (h : 64 * i + 64 ≤ m.length) : (blk m i).length = 64 := by unfold blk; simp; omega
theorem blk_mem {m : List Int} {i : Nat} (h : ∀ x ∈ m, B8 x) : ∀ x ∈ blk m i, B8 x := fun x hx => h x (List.mem_of_mem_drop (List.mem_of_mem_take hx))
theorem puts_blocks (kk bg m : List Int) : ∀ i, 64 * i ≤ m.length →
    ((hs0 bg).puts kk (m.take (64 * i))).st = cmpN kk bg m i ∧ ((hs0 bg).puts kk (m.take (64 * i))).n = 64 * i ∧ ((hs0 bg).puts kk (m.take (64 * i))).bl.length = 64
  | 0, _ => by
    rw [show 64 * 0 = 0 from rfl, List.take_zero, Hs.puts_nil]
    exact ⟨rfl, rfl, by simp [hs0]⟩
  | i + 1, h => by
    obtain ⟨h1, h2, h3⟩ := puts_blocks kk bg m i (by omega)
    have hb : (blk m i).length = 64 := blk_len (by omega)
    have e : m.take (64 * (i + 1)) = m.take (64 * i) ++ blk m i := by
      unfold blk
      rw [show 64 * (i + 1) = 64 * i + 64 by omega, List.take_add]
    rw [e, Hs.puts_append]
    generalize (hs0 bg).puts kk (m.take (64 * i)) = H at *
    have hn : H.n % 64 = 0 := by omega
    rw [Hs.puts_chunk kk (blk m i) H h3 (by omega) (by omega)]
    have ho : ovl H.bl (H.n % 64) (blk m i) = blk m i := by
      rw [hn]; unfold ovl
      rw [List.take_zero, List.nil_append, List.drop_eq_nil_of_le (by omega), List.append_nil]
    rw [ho]
    dsimp only
    rw [if_pos (by omega), h1]
    exact ⟨rfl, by omega, hb⟩
theorem pad_len (n : Nat) : (n + (pad n).length) % 64 = 0 := by
  unfold pad zeros
  simp only [List.length_cons, List.length_append, List.length_replicate, be8_len]
  omega
theorem pad_small (n : Nat) : (pad n).length ≤ 73 := by
  unfold pad zeros
  simp only [List.length_cons, List.length_append, List.length_replicate, be8_len]
  omega
/-- a hash is the state behind the blocks of the padded message -/
theorem sha_blocks (kk bg m : List Int) : sha kk bg m = outw (cmpN kk bg (m ++ pad m.length) ((m ++ pad m.length).length / 64)) 8 := by
  unfold sha Hs.fin
  rw [Hs.puts_n, show (hs0 bg).n + m.length = m.length from Nat.zero_add _, ← Hs.puts_append]
  have h := puts_blocks kk bg (m ++ pad m.length) ((m ++ pad m.length).length / 64) (by omega)
  have hl : (m ++ pad m.length).length % 64 = 0 := by rw [List.length_append]; exact pad_len _
  rw [List.take_of_length_le (by omega)] at h
  rw [h.1]
theorem b8_pad (n : Nat) : ∀ x ∈ pad n, B8 x := fun x hx => by
  simp only [pad, List.mem_cons, List.mem_append, List.mem_replicate, be8, List.mem_map] at hx
  rcases hx with rfl | ⟨_, rfl⟩ | ⟨i, _, rfl⟩
  · exact ⟨by decide, by decide⟩
  · exact ⟨by decide, by decide⟩
  · exact ⟨Int.emod_nonneg _ (by decide), Int.emod_lt_of_pos _ (by decide)⟩
/-- four bytes of v laid at 4 i, the last first -/
def last4 (l : List Int) (i : Nat) (v : Int) : Nat → List Int
  | 0 => l
  | j + 1 => (last4 l i v j).set (4 * i + (3 - j)) (v / 256 ^ j % 256)
theorem last4_len (l : List Int) (i : Nat) (v : Int) : ∀ j, (last4 l i v j).length = l.length
  | 0 => rfl
  | j + 1 => by rw [last4, List.length_set]; exact last4_len l i v j
theorem last4_outw (st : List Int) (i : Nat) : last4 (outw st i) i (st.getD i 0) 4 = outw st (i + 1) := by
  generalize hl : outw st i = l
  show _ = (((((outw st i).set (4 * i) (st.getD i 0 / 16777216 % 256)).set (4 * i + 1) (st.getD i 0 / 65536 % 256)).set (4 * i + 2) (st.getD i 0 / 256 % 256)).set (4 * i + 3) (st.getD i 0 % 256))
  rw [hl]
  generalize st.getD i 0 = v
  show ((((l.set (4 * i + 3) (v / 256 ^ 0 % 256)).set (4 * i + 2) (v / 256 ^ 1 % 256)).set (4 * i + 1) (v / 256 ^ 2 % 256)).set (4 * i + 0) (v / 256 ^ 3 % 256)) = _
  rw [show v / 256 ^ 0 = v by simp, show (256 : Int) ^ 1 = 256 by decide, show (256 : Int) ^ 2 = 65536 by decide, show (256 : Int) ^ 3 = 16777216 by decide, Nat.add_zero]
  apply List.ext_getElem?
  intro j
  simp only [List.getElem?_set, List.length_set]
  by_cases h0 : 4 * i = j
  · subst h0
    simp
  · by_cases h1 : 4 * i + 1 = j
    · subst h1; simp
    · by_cases h2 : 4 * i + 2 = j
      · subst h2; simp
      · by_cases h3 : 4 * i + 3 = j
        · subst h3; simp
        · simp [h0, h1, h2, h3]
theorem div_more (v : Int) (j : Nat) : v / 256 ^ j / 256 = v / 256 ^ (j + 1) := by
  rw [Int.ediv_ediv_of_nonneg (Int.pow_nonneg (by decide)), Int.pow_succ]
/-- eight bytes of v, the last first -/
def last8 (v : Int) : Nat → List Int
  | 0 => List.replicate 8 0
  | j + 1 => (last8 v j).set (7 - j) (v / 256 ^ j % 256)
theorem last8_len (v : Int) : ∀ j, (last8 v j).length = 8
  | 0 => by simp [last8]
  | j + 1 => by rw [last8, List.length_set]; exact last8_len v j
theorem last8_be8 (v : Int) : last8 v 8 = be8 v := by
  show ((((((((List.replicate 8 0).set 7 (v / 256 ^ 0 % 256)).set 6 (v / 256 ^ 1 % 256)).set 5 (v / 256 ^ 2 % 256)).set 4 (v / 256 ^ 3 % 256)).set 3 (v / 256 ^ 4 % 256)).set 2 (v / 256 ^ 5 % 256)).set 1 (v / 256 ^ 6 % 256)).set 0 (v / 256 ^ 7 % 256) = [v / 2 ^ 56 % 256, v / 2 ^ 48 % 256, v / 2 ^ 40 % 256, v / 2 ^ 32 % 256, v / 2 ^ 24 % 256, v / 2 ^ 16 % 256, v / 2 ^ 8 % 256, v / 2 ^ 0 % 256]
  rw [show (256 : Int) ^ 0 = 2 ^ 0 by decide, show (256 : Int) ^ 1 = 2 ^ 8 by decide, show (256 : Int) ^ 2 = 2 ^ 16 by decide, show (256 : Int) ^ 3 = 2 ^ 24 by decide, show (256 : Int) ^ 4 = 2 ^ 32 by decide, show (256 : Int) ^ 5 = 2 ^ 40 by decide, show (256 : Int) ^ 6 = 2 ^ 48 by decide, show (256 : Int) ^ 7 = 2 ^ 56 by decide]
  rfl
end Go.Proofs.YtkceaepbjdfccaaDoor
