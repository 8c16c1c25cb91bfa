/-
Plain laws: the words of letheref02, reckoned in sixty-four bits, are those of sha.
-/
import Derived.Test.YtkceaepbjdfccaaDoorRef1
import Derived.Test.YtkceaepbjdfccaaDoorSha2
import Derived.Laws.BitsAllLaws
import Derived.Laws.Closers25b
namespace Go.Proofs.YtkceaepbjdfccaaDoor
open Go.RowKit
/-- a word -/
def W32 (x : Int) : Prop := 0 ≤ x ∧ x < 4294967296
theorem x64 {a b : Int} (ha : W32 a) (hb : W32 b) : bits .xor .u64 a b = bits .xor .u32 a b := by
  rw [u64_xor a b ha.1 (by have := ha.2; omega) hb.1 (by have := hb.2; omega), u32_xor a b ha.1 ha.2 hb.1 hb.2]
theorem a64 {a b : Int} (ha : W32 a) (hb : W32 b) : bits .and .u64 a b = bits .and .u32 a b := by
  rw [u64_and a b ha.1 (by have := ha.2; omega) hb.1 (by have := hb.2; omega), u32_and a b ha.1 ha.2 hb.1 hb.2]
theorem w32_bits (op : BinOp) (a b : Int) : W32 (bits op .u32 a b) := ⟨bits_lo_u32 op a b, by have := bits_hi_u32 op a b; omega⟩
theorem w32_mod (a : Int) : W32 (a % 4294967296) := ⟨Int.emod_nonneg _ (by decide), Int.emod_lt_of_pos _ (by decide)⟩
theorem w32_ror (n x : Int) : W32 (ror n x) := w32_bits _ _ _
theorem w32_turns {x : Int} (h : W32 x) (n : Nat) : W32 (turns x n) := turns_rng x h.1 h.2 n
theorem w32_moves {x : Int} (h : W32 x) (n : Nat) : W32 (moves x n) := moves_rng x h.1 h.2 n
theorem turns_r {x : Int} (h : W32 x) (n : Nat) (hn : n ≤ 32) : turns x n = ror n x := turns_ror x h.1 h.2 n hn
theorem w32_zero : W32 0 := ⟨by decide, by decide⟩
theorem w32_getD {l : List Int} (h : ∀ x ∈ l, W32 x) (i : Nat) : W32 (l.getD i 0) := by
  rw [List.getD_eq_getElem?_getD]
  by_cases hi : i < l.length
  · rw [List.getElem?_eq_getElem hi]; exact h _ (List.getElem_mem hi)
  · rw [List.getElem?_eq_none (by omega)]; exact w32_zero
/-- three rotations, two of them joined -/
theorem sig3 {x : Int} (h : W32 x) (a b c : Nat) (ha : a ≤ 32) (hb : b ≤ 32) (hc : c ≤ 32) :
    bits .xor .u64 (bits .xor .u64 (turns x a) (turns x b)) (turns x c) = bits .xor .u32 (bits .xor .u32 (ror a x) (ror b x)) (ror c x) := by
  rw [turns_r h a ha, turns_r h b hb, turns_r h c hc, x64 (w32_ror _ _) (w32_ror _ _), x64 (w32_bits _ _ _) (w32_ror _ _)]
theorem sig2 {x : Int} (h : W32 x) (a b c : Nat) (ha : a ≤ 32) (hb : b ≤ 32) :
    bits .xor .u64 (bits .xor .u64 (turns x a) (turns x b)) (moves x c) = bits .xor .u32 (bits .xor .u32 (ror a x) (ror b x)) (x / 2 ^ c) := by
  rw [turns_r h a ha, turns_r h b hb, x64 (w32_ror _ _) (w32_ror _ _), x64 (w32_bits _ _ _) (w32_moves h c), moves_eq]
/-- a word of the schedule behind the sixteenth -/
theorem mix_eq {x y p q : Int} (hx : W32 x) (hy : W32 y) :
    (bits .xor .u64 (bits .xor .u64 (turns y 17) (turns y 19)) (moves y 10) + p + bits .xor .u64 (bits .xor .u64 (turns x 7) (turns x 18)) (moves x 3) + q) % 4294967296 = mix x y p q := by
  rw [sig2 hy 17 19 10 (by decide) (by decide), sig2 hx 7 18 3 (by decide) (by decide)]
  rfl
theorem w32_mix (x y p q : Int) : W32 (mix x y p q) := w32_mod _
/-- a byte -/
def B8 (x : Int) : Prop := 0 ≤ x ∧ x < 256
/-- four bytes as a number, one by one -/
theorem word_eq {a b c d : Int} (ha : B8 a) (hb : B8 b) (hc : B8 c) (hd : B8 d) : word a b c d = ((a * 256 + b) * 256 + c) * 256 + d := by
  obtain ⟨a0, a1⟩ := ha
  obtain ⟨b0, b1⟩ := hb
  obtain ⟨c0, c1⟩ := hc
  obtain ⟨d0, d1⟩ := hd
  unfold word
  rw [show a % 4294967296 * 16777216 % 4294967296 = a * 16777216 by omega, show b % 4294967296 * 65536 % 4294967296 = b * 65536 by omega, show c % 4294967296 * 256 % 4294967296 = c * 256 by omega, show d % 4294967296 = d by omega]
  rw [bits_join .u32 32 (by decide) wraps_u32 24 (a * 16777216) (b * 65536) (by omega) (by omega) (by omega) (by omega) (by omega) (by omega)]
  rw [bits_join .u32 32 (by decide) wraps_u32 16 (a * 16777216 + b * 65536) (c * 256) (by omega) (by omega) (by omega) (by omega) (by omega) (by omega)]
  rw [bits_join .u32 32 (by decide) wraps_u32 8 (a * 16777216 + b * 65536 + c * 256) d (by omega) (by omega) (by omega) (by omega) (by omega) (by omega)]
  omega
theorem w32_word (a b c d : Int) : W32 (word a b c d) := w32_bits _ _ _
theorem w32_set {l : List Int} (h : ∀ x ∈ l, W32 x) {v : Int} (hv : W32 v) (i : Nat) : ∀ x ∈ l.set i v, W32 x := fun x hx => by
  rcases List.mem_or_eq_of_mem_set hx with h1 | h1
  · exact h x h1
  · exact h1 ▸ hv
theorem w32_sch1 (bl : List Int) : ∀ t, ∀ x ∈ sch1 bl t, W32 x
  | 0 => fun x hx => by rw [sch1, List.mem_replicate] at hx; rw [hx.2]; exact w32_zero
  | t + 1 => w32_set (w32_sch1 bl t) (w32_word _ _ _ _) t
theorem w32_sch2 (bl : List Int) : ∀ k, ∀ x ∈ sch2 bl k, W32 x
  | 0 => w32_sch1 bl 16
  | k + 1 => w32_set (w32_sch2 bl k) (w32_mix _ _ _ _) _
/-- the eight words are words -/
structure St8.W (s : St8) : Prop where
  a : W32 s.a
  b : W32 s.b
  c : W32 s.c
  d : W32 s.d
  e : W32 s.e
  f : W32 s.f
  g : W32 s.g
  h : W32 s.h
theorem St8.W.step {s : St8} (h : s.W) (k x : Int) : (s.step k x).W := ⟨w32_mod _, h.a, h.b, h.c, w32_mod _, h.e, h.f, h.g⟩
theorem not_eq {e : Int} (h : W32 e) : bits .xor .u32 IntKind.u32.max e = 4294967295 - e := by
  obtain ⟨n, rfl⟩ := Int.eq_ofNat_of_zero_le h.1
  have hn : n < 2 ^ 32 := by have := h.2; omega
  rw [show IntKind.u32.max = 4294967295 from by decide, u32_xor _ _ (by decide) (by decide) h.1 h.2, Int.toNat_natCast]
  have e1 : (4294967295 : Int).toNat ^^^ n = 2 ^ 32 - (n + 1) := by
    rw [show (4294967295 : Int).toNat = 2 ^ 32 - 1 from by decide]
    apply Nat.eq_of_testBit_eq
    intro i
    rw [Nat.testBit_xor, Nat.testBit_two_pow_sub_succ hn, Nat.testBit_two_pow_sub_one]
    by_cases hi : i < 32
    · simp [hi]
    · have hb : n.testBit i = false := Nat.testBit_lt_two_pow (Nat.lt_of_lt_of_le hn (Nat.pow_le_pow_right (by decide) (by omega)))
      simp [hi, hb]
  rw [e1]
  omega
/-- what one round of letheref02 reckons -/
def St8.r1 (s : St8) (k x : Int) : Int :=
  s.h + bits .xor .u64 (bits .xor .u64 (turns s.e 6) (turns s.e 11)) (turns s.e 25) + bits .xor .u64 (bits .and .u64 s.e s.f) (bits .and .u64 (4294967295 - s.e) s.g) + k + x
def St8.r2 (s : St8) : Int :=
  bits .xor .u64 (bits .xor .u64 (turns s.a 2) (turns s.a 13)) (turns s.a 22) + bits .xor .u64 (bits .xor .u64 (bits .and .u64 s.a s.b) (bits .and .u64 s.a s.c)) (bits .and .u64 s.b s.c)
theorem r_step {s : St8} (h : s.W) (k x : Int) : s.step k x = ⟨(s.r1 k x + s.r2) % 4294967296, s.a, s.b, s.c, (s.d + s.r1 k x) % 4294967296, s.e, s.f, s.g⟩ := by
  have n32 : W32 (4294967295 - s.e) := ⟨by have := h.e.2; omega, by have := h.e.1; omega⟩
  have e1 : s.r1 k x % 4294967296 = s.t1 k x % 4294967296 := by
    unfold St8.r1 St8.t1
    rw [sig3 h.e 6 11 25 (by decide) (by decide) (by decide), a64 h.e h.f, a64 n32 h.g, x64 (w32_bits _ _ _) (w32_bits _ _ _), ← not_eq h.e]
    show _ = ((((s.h + bits .xor .u32 (bits .xor .u32 (ror ((6 : Nat) : Int) s.e) (ror ((11 : Nat) : Int) s.e)) (ror ((25 : Nat) : Int) s.e)) % 4294967296 + bits .xor .u32 (bits .and .u32 s.e s.f) (bits .and .u32 (bits .xor .u32 IntKind.u32.max s.e) s.g)) % 4294967296 + k) % 4294967296 + x) % 4294967296
    generalize bits .xor .u32 (bits .xor .u32 (ror ((6 : Nat) : Int) s.e) (ror ((11 : Nat) : Int) s.e)) (ror ((25 : Nat) : Int) s.e) = y
    generalize bits .xor .u32 (bits .and .u32 s.e s.f) (bits .and .u32 (bits .xor .u32 IntKind.u32.max s.e) s.g) = z
    omega
  have e2 : s.r2 % 4294967296 = s.t2 := by
    unfold St8.r2 St8.t2
    rw [sig3 h.a 2 13 22 (by decide) (by decide) (by decide), a64 h.a h.b, a64 h.a h.c, a64 h.b h.c, x64 (w32_bits _ _ _) (w32_bits _ _ _), x64 (w32_bits _ _ _) (w32_bits _ _ _)]
    rfl
  unfold St8.step
  rw [← e1, ← e2]
  generalize s.r1 k x = y
  generalize s.r2 = z
  congr 1 <;> omega
end Go.Proofs.YtkceaepbjdfccaaDoor
