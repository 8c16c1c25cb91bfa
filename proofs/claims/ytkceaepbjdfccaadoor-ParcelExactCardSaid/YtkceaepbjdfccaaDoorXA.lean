/-
The document: its hash.
-/
import Derived.Test.YtkceaepbjdfccaaDoorSha1
import Derived.Laws.BitsLemmas
import Derived.Test.YtkceaepbjdfccaaDoorSha2
import Derived.Laws.BitsAllLaws
import Derived.Laws.Closers25b
import Derived.Test.YtkceaepbjdfccaaDoorSha7
import Derived.Test.YtkceaepbjdfccaaDoorHalf1
import Derived.Test.YtkceaepbjdfccaaDoorHalf2
import Derived.Test.YtkceaepbjdfccaaDoorSha5
import Derived.Test.YtkceaepbjdfccaaDoorPar19
/-
letheref02.turn, letheref02.move: rotations and shifts by division.
-/
namespace Go.Proofs.YtkceaepbjdfccaaDoor
open Go.RowKit
/-- one turn -/
def turn1 (x : Int) : Int := x / 2 + x % 2 * 2147483648
/-- so many turns -/
def turns (x : Int) : Nat → Int
  | 0 => x
  | n + 1 => turn1 (turns x n)
/-- so many moves -/
def moves (x : Int) : Nat → Int
  | 0 => x
  | n + 1 => moves x n / 2
theorem turns_rng (x : Int) (h0 : 0 ≤ x) (h1 : x < 4294967296) : ∀ n, 0 ≤ turns x n ∧ turns x n < 4294967296
  | 0 => ⟨h0, h1⟩
  | n + 1 => by
    have := turns_rng x h0 h1 n
    show 0 ≤ turn1 (turns x n) ∧ turn1 (turns x n) < 4294967296
    unfold turn1
    omega
theorem moves_rng (x : Int) (h0 : 0 ≤ x) (h1 : x < 4294967296) : ∀ n, 0 ≤ moves x n ∧ moves x n < 4294967296
  | 0 => ⟨h0, h1⟩
  | n + 1 => by
    have := moves_rng x h0 h1 n
    show 0 ≤ moves x n / 2 ∧ moves x n / 2 < 4294967296
    omega
set_option maxRecDepth 100000 in
theorem turn_any (n : Nat) (x : Int) (hn : n ≤ 1000) (h0 : 0 ≤ x) (h1 : x < 4294967296) (w : World) :
    Calls Tryd.prog 92 #[.int .i64 n, .int .u64 x] w fun e w' => e = .returned (.int .u64 (turns x n)) ∧ w = w' := by
  go_enter Tryd.func92, Tryd.ntmps92
  go_wp2_with fail
  go_loopw [1, 5] (fun v i wr => ∃ k : Nat, k ≤ n ∧ i = .int .i64 k ∧ v = .int .u64 (turns x k) ∧ w = wr) (fun _ i _ => n - (intOf i).toNat)
  case atStart => exact ⟨0, Nat.zero_le _, rfl, rfl, rfl⟩
  case round =>
    obtain ⟨k, hk, rfl, rfl, rfl⟩ := hrel
    have hr := turns_rng x h0 h1 k
    by_cases hlt : k < n
    · have hlt' : (k : Int) < (n : Int) := by omega
      have HE : Hid (turns x (k + 1) = turns x k / 2 + turns x k % 2 * 2147483648) := Lib.hid rfl
      generalize turns x k = y at *
      have v1 : IntKind.u64.wrap (y % 2 * 2147483648) = y % 2 * 2147483648 := by rw [IntKind.wrap_u64]; omega
      have v2 : IntKind.u64.wrap (y / 2 + y % 2 * 2147483648) = y / 2 + y % 2 * 2147483648 := by rw [IntKind.wrap_u64]; omega
      go_wp2_with fail
      go_roundw
      case rel => exact ⟨k + 1, by omega, by go_num, by rw [HE.out], trivial⟩
      case measure => simp [intOf]; omega
    · have hlt' : ¬ (k : Int) < (n : Int) := by omega
      obtain rfl : k = n := by omega
      go_wp2_with fail
      go_ret
      exact ⟨rfl, rfl⟩
set_option maxRecDepth 100000 in
theorem move_any (n : Nat) (x : Int) (hn : n ≤ 1000) (h0 : 0 ≤ x) (h1 : x < 4294967296) (w : World) :
    Calls Tryd.prog 93 #[.int .i64 n, .int .u64 x] w fun e w' => e = .returned (.int .u64 (moves x n)) ∧ w = w' := by
  go_enter Tryd.func93, Tryd.ntmps93
  go_wp2_with fail
  go_loopw [1, 5] (fun v i wr => ∃ k : Nat, k ≤ n ∧ i = .int .i64 k ∧ v = .int .u64 (moves x k) ∧ w = wr) (fun _ i _ => n - (intOf i).toNat)
  case atStart => exact ⟨0, Nat.zero_le _, rfl, rfl, rfl⟩
  case round =>
    obtain ⟨k, hk, rfl, rfl, rfl⟩ := hrel
    have hr := moves_rng x h0 h1 k
    by_cases hlt : k < n
    · have hlt' : (k : Int) < (n : Int) := by omega
      have HE : Hid (moves x (k + 1) = moves x k / 2) := Lib.hid rfl
      generalize moves x k = y at *
      go_wp2_with fail
      go_roundw
      case rel => exact ⟨k + 1, by omega, by go_num, by rw [HE.out], trivial⟩
      case measure => simp [intOf]; omega
    · have hlt' : ¬ (k : Int) < (n : Int) := by omega
      obtain rfl : k = n := by omega
      go_wp2_with fail
      go_ret
      exact ⟨rfl, rfl⟩
theorem moves_eq (x : Int) : ∀ n, moves x n = x / 2 ^ n
  | 0 => by simp [moves]
  | n + 1 => by
    show moves x n / 2 = _
    rw [moves_eq x n, Int.ediv_ediv_of_nonneg (Int.pow_nonneg (by decide)), Int.pow_succ]
theorem turns_eq (x : Int) (h0 : 0 ≤ x) (h1 : x < 4294967296) : ∀ n, n ≤ 32 → turns x n = x / 2 ^ n + x % 2 ^ n * 2 ^ (32 - n)
  | 0, _ => by simp [turns]
  | n + 1, h => by
    show turn1 (turns x n) = _
    rw [turns_eq x h0 h1 n (by omega)]
    obtain ⟨m, hm⟩ : ∃ m, 32 - n = m + 1 := ⟨31 - n, by omega⟩
    have hm2 : 32 - (n + 1) = m := by omega
    have hnm : (2 : Int) ^ n * 2 ^ m = 2147483648 := by
      rw [← Int.pow_add, show n + m = 31 by omega]; decide
    rw [hm, hm2, Int.pow_succ, Int.pow_succ]
    have hP : (0 : Int) < 2 ^ n := Int.pow_pos (by decide)
    generalize (2 : Int) ^ n = P at *
    generalize (2 : Int) ^ m = R at *
    have e1 : x / (P * 2) = x / P / 2 := (Int.ediv_ediv_of_nonneg (by omega)).symm
    have e2 : x % (P * 2) = x % P + P * (x / P % 2) := by
      have a1 := Int.mul_ediv_add_emod x (P * 2)
      have a2 := Int.mul_ediv_add_emod x P
      have a3 := Int.mul_ediv_add_emod (x / P) 2
      rw [e1] at a1
      have a4 : P * (x / P) = P * 2 * (x / P / 2) + P * (x / P % 2) := by
        rw [Int.mul_assoc, ← Int.mul_add, a3]
      omega
    rw [e1, e2, Int.add_mul]
    unfold turn1
    have e3 : x % P * (R * 2) = 2 * (x % P * R) := by rw [← Int.mul_assoc, Int.mul_comm]
    have e4 : P * (x / P % 2) * R = x / P % 2 * 2147483648 := by rw [← hnm, Int.mul_comm P, Int.mul_assoc]
    rw [e3, e4]
    generalize x % P * R = z at *
    generalize x / P = y at *
    omega
theorem wraps_u32 (n : Int) (h₀ : 0 ≤ n) (h₁ : n < 2 ^ 32) : IntKind.u32.wrap n = n := by rw [IntKind.wrap_u32]; omega
/-- a rotation by turns -/
theorem turns_ror (x : Int) (h0 : 0 ≤ x) (h1 : x < 4294967296) (n : Nat) (hn : n ≤ 32) : turns x n = ror n x := by
  rw [turns_eq x h0 h1 n hn]
  unfold ror
  have t1 : (32 - (n : Int)).toNat = 32 - n := by omega
  rw [t1, Int.toNat_natCast]
  obtain ⟨m, hm⟩ : ∃ m, 32 - n = m := ⟨_, rfl⟩
  rw [hm]
  have hnm : (2 : Int) ^ m * 2 ^ n = 4294967296 := by
    rw [← Int.pow_add, show m + n = 32 by omega]; decide
  have hP : (0 : Int) < 2 ^ n := Int.pow_pos (by decide)
  have hQ : (0 : Int) < 2 ^ m := Int.pow_pos (by decide)
  have e1 : x * 2 ^ m % 4294967296 = 2 ^ m * (x % 2 ^ n) := by
    rw [← hnm, Int.mul_comm x, Int.mul_emod_mul_of_pos _ _ hQ]
  have hb := Int.emod_nonneg x (Int.ne_of_gt hP)
  have hb2 := Int.emod_lt_of_pos x hP
  have hy0 : 0 ≤ x / 2 ^ n := Int.ediv_nonneg h0 (Int.le_of_lt hP)
  have hy1 : x / 2 ^ n < 2 ^ m := Int.ediv_lt_of_lt_mul hP (by rw [hnm]; exact h1)
  have hz1 : 2 ^ m * (x % 2 ^ n) < 4294967296 := by rw [← hnm]; exact Int.mul_lt_mul_of_pos_left hb2 hQ
  have hz0 : 0 ≤ 2 ^ m * (x % 2 ^ n) := Int.mul_nonneg (Int.le_of_lt hQ) hb
  have hq32 : (2 : Int) ^ m ≤ 4294967296 := by
    rw [← hnm]
    have := Int.mul_le_mul_of_nonneg_left (show (1 : Int) ≤ 2 ^ n by omega) (Int.le_of_lt hQ)
    rwa [Int.mul_one] at this
  rw [e1, bits_join .u32 32 (by decide) wraps_u32 m _ _ hz0 (Int.mul_emod_right _ _) hz1 hy0 hy1 (by omega), Int.mul_comm (2 ^ m), Int.add_comm]
end Go.Proofs.YtkceaepbjdfccaaDoor
/-
Plain laws: the words of letheref02, reckoned in sixty-four bits, are those of sha.
-/
namespace Go.Proofs.YtkceaepbjdfccaaDoor
open Go.RowKit
/-- a word -/
def W32 (x : Int) : Prop := 0 ≤ x ∧ x < 4294967296
theorem x64 {a b : Int} (ha : W32 a) (hb : W32 b) : bits .xor .u64 a b = bits .xor .u32 a b := by
  rw [u64_xor a b ha.1 (by have := ha.2; omega) hb.1 (by have := hb.2; omega), u32_xor a b ha.1 ha.2 hb.1 hb.2]
theorem a64 {a b : Int} (ha : W32 a) (hb : W32 b) : bits .and .u64 a b = bits .and .u32 a b := by
  rw [u64_and a b ha.1 (by have := ha.2; omega) hb.1 (by have := hb.2; omega), u32_and a b ha.1 ha.2 hb.1 hb.2]
theorem w32_bits (op : BinOp) (a b : Int) : W32 (bits op .u32 a b) := ⟨bits_lo_u32 op a b, by have := bits_hi_u32 op a b; omega⟩
theorem w32_mod (a : Int) : W32 (a % 4294967296) := ⟨Int.emod_nonneg _ (by decide), Int.emod_lt_of_pos _ (by decide)⟩
theorem w32_ror (n x : Int) : W32 (ror n x) := w32_bits _ _ _
theorem w32_turns {x : Int} (h : W32 x) (n : Nat) : W32 (turns x n) := turns_rng x h.1 h.2 n
theorem w32_moves {x : Int} (h : W32 x) (n : Nat) : W32 (moves x n) := moves_rng x h.1 h.2 n
theorem turns_r {x : Int} (h : W32 x) (n : Nat) (hn : n ≤ 32) : turns x n = ror n x := turns_ror x h.1 h.2 n hn
theorem w32_zero : W32 0 := ⟨by decide, by decide⟩
theorem w32_getD {l : List Int} (h : ∀ x ∈ l, W32 x) (i : Nat) : W32 (l.getD i 0) := by
  rw [List.getD_eq_getElem?_getD]
  by_cases hi : i < l.length
  · rw [List.getElem?_eq_getElem hi]; exact h _ (List.getElem_mem hi)
  · rw [List.getElem?_eq_none (by omega)]; exact w32_zero
/-- three rotations, two of them joined -/
theorem sig3 {x : Int} (h : W32 x) (a b c : Nat) (ha : a ≤ 32) (hb : b ≤ 32) (hc : c ≤ 32) :
    bits .xor .u64 (bits .xor .u64 (turns x a) (turns x b)) (turns x c) = bits .xor .u32 (bits .xor .u32 (ror a x) (ror b x)) (ror c x) := by
  rw [turns_r h a ha, turns_r h b hb, turns_r h c hc, x64 (w32_ror _ _) (w32_ror _ _), x64 (w32_bits _ _ _) (w32_ror _ _)]
theorem sig2 {x : Int} (h : W32 x) (a b c : Nat) (ha : a ≤ 32) (hb : b ≤ 32) :
    bits .xor .u64 (bits .xor .u64 (turns x a) (turns x b)) (moves x c) = bits .xor .u32 (bits .xor .u32 (ror a x) (ror b x)) (x / 2 ^ c) := by
  rw [turns_r h a ha, turns_r h b hb, x64 (w32_ror _ _) (w32_ror _ _), x64 (w32_bits _ _ _) (w32_moves h c), moves_eq]
/-- a word of the schedule behind the sixteenth -/
theorem mix_eq {x y p q : Int} (hx : W32 x) (hy : W32 y) :
    (bits .xor .u64 (bits .xor .u64 (turns y 17) (turns y 19)) (moves y 10) + p + bits .xor .u64 (bits .xor .u64 (turns x 7) (turns x 18)) (moves x 3) + q) % 4294967296 = mix x y p q := by
  rw [sig2 hy 17 19 10 (by decide) (by decide), sig2 hx 7 18 3 (by decide) (by decide)]
  rfl
theorem w32_mix (x y p q : Int) : W32 (mix x y p q) := w32_mod _
/-- a byte -/
def B8 (x : Int) : Prop := 0 ≤ x ∧ x < 256
/-- four bytes as a number, one by one -/
theorem word_eq {a b c d : Int} (ha : B8 a) (hb : B8 b) (hc : B8 c) (hd : B8 d) : word a b c d = ((a * 256 + b) * 256 + c) * 256 + d := by
  obtain ⟨a0, a1⟩ := ha
  obtain ⟨b0, b1⟩ := hb
  obtain ⟨c0, c1⟩ := hc
  obtain ⟨d0, d1⟩ := hd
  unfold word
  rw [show a % 4294967296 * 16777216 % 4294967296 = a * 16777216 by omega, show b % 4294967296 * 65536 % 4294967296 = b * 65536 by omega, show c % 4294967296 * 256 % 4294967296 = c * 256 by omega, show d % 4294967296 = d by omega]
  rw [bits_join .u32 32 (by decide) wraps_u32 24 (a * 16777216) (b * 65536) (by omega) (by omega) (by omega) (by omega) (by omega) (by omega)]
  rw [bits_join .u32 32 (by decide) wraps_u32 16 (a * 16777216 + b * 65536) (c * 256) (by omega) (by omega) (by omega) (by omega) (by omega) (by omega)]
  rw [bits_join .u32 32 (by decide) wraps_u32 8 (a * 16777216 + b * 65536 + c * 256) d (by omega) (by omega) (by omega) (by omega) (by omega) (by omega)]
  omega
theorem w32_word (a b c d : Int) : W32 (word a b c d) := w32_bits _ _ _
theorem w32_set {l : List Int} (h : ∀ x ∈ l, W32 x) {v : Int} (hv : W32 v) (i : Nat) : ∀ x ∈ l.set i v, W32 x := fun x hx => by
  rcases List.mem_or_eq_of_mem_set hx with h1 | h1
  · exact h x h1
  · exact h1 ▸ hv
theorem w32_sch1 (bl : List Int) : ∀ t, ∀ x ∈ sch1 bl t, W32 x
  | 0 => fun x hx => by rw [sch1, List.mem_replicate] at hx; rw [hx.2]; exact w32_zero
  | t + 1 => w32_set (w32_sch1 bl t) (w32_word _ _ _ _) t
theorem w32_sch2 (bl : List Int) : ∀ k, ∀ x ∈ sch2 bl k, W32 x
  | 0 => w32_sch1 bl 16
  | k + 1 => w32_set (w32_sch2 bl k) (w32_mix _ _ _ _) _
/-- the eight words are words -/
structure St8.W (s : St8) : Prop where
  a : W32 s.a
  b : W32 s.b
  c : W32 s.c
  d : W32 s.d
  e : W32 s.e
  f : W32 s.f
  g : W32 s.g
  h : W32 s.h
theorem St8.W.step {s : St8} (h : s.W) (k x : Int) : (s.step k x).W := ⟨w32_mod _, h.a, h.b, h.c, w32_mod _, h.e, h.f, h.g⟩
theorem not_eq {e : Int} (h : W32 e) : bits .xor .u32 IntKind.u32.max e = 4294967295 - e := by
  obtain ⟨n, rfl⟩ := Int.eq_ofNat_of_zero_le h.1
  have hn : n < 2 ^ 32 := by have := h.2; omega
  rw [show IntKind.u32.max = 4294967295 from by decide, u32_xor _ _ (by decide) (by decide) h.1 h.2, Int.toNat_natCast]
  have e1 : (4294967295 : Int).toNat ^^^ n = 2 ^ 32 - (n + 1) := by
    rw [show (4294967295 : Int).toNat = 2 ^ 32 - 1 from by decide]
    apply Nat.eq_of_testBit_eq
    intro i
    rw [Nat.testBit_xor, Nat.testBit_two_pow_sub_succ hn, Nat.testBit_two_pow_sub_one]
    by_cases hi : i < 32
    · simp [hi]
    · have hb : n.testBit i = false := Nat.testBit_lt_two_pow (Nat.lt_of_lt_of_le hn (Nat.pow_le_pow_right (by decide) (by omega)))
      simp [hi, hb]
  rw [e1]
  omega
/-- what one round of letheref02 reckons -/
def St8.r1 (s : St8) (k x : Int) : Int :=
  s.h + bits .xor .u64 (bits .xor .u64 (turns s.e 6) (turns s.e 11)) (turns s.e 25) + bits .xor .u64 (bits .and .u64 s.e s.f) (bits .and .u64 (4294967295 - s.e) s.g) + k + x
def St8.r2 (s : St8) : Int :=
  bits .xor .u64 (bits .xor .u64 (turns s.a 2) (turns s.a 13)) (turns s.a 22) + bits .xor .u64 (bits .xor .u64 (bits .and .u64 s.a s.b) (bits .and .u64 s.a s.c)) (bits .and .u64 s.b s.c)
theorem r_step {s : St8} (h : s.W) (k x : Int) : s.step k x = ⟨(s.r1 k x + s.r2) % 4294967296, s.a, s.b, s.c, (s.d + s.r1 k x) % 4294967296, s.e, s.f, s.g⟩ := by
  have n32 : W32 (4294967295 - s.e) := ⟨by have := h.e.2; omega, by have := h.e.1; omega⟩
  have e1 : s.r1 k x % 4294967296 = s.t1 k x % 4294967296 := by
    unfold St8.r1 St8.t1
    rw [sig3 h.e 6 11 25 (by decide) (by decide) (by decide), a64 h.e h.f, a64 n32 h.g, x64 (w32_bits _ _ _) (w32_bits _ _ _), ← not_eq h.e]
    show _ = ((((s.h + bits .xor .u32 (bits .xor .u32 (ror ((6 : Nat) : Int) s.e) (ror ((11 : Nat) : Int) s.e)) (ror ((25 : Nat) : Int) s.e)) % 4294967296 + bits .xor .u32 (bits .and .u32 s.e s.f) (bits .and .u32 (bits .xor .u32 IntKind.u32.max s.e) s.g)) % 4294967296 + k) % 4294967296 + x) % 4294967296
    generalize bits .xor .u32 (bits .xor .u32 (ror ((6 : Nat) : Int) s.e) (ror ((11 : Nat) : Int) s.e)) (ror ((25 : Nat) : Int) s.e) = y
    generalize bits .xor .u32 (bits .and .u32 s.e s.f) (bits .and .u32 (bits .xor .u32 IntKind.u32.max s.e) s.g) = z
    omega
  have e2 : s.r2 % 4294967296 = s.t2 := by
    unfold St8.r2 St8.t2
    rw [sig3 h.a 2 13 22 (by decide) (by decide) (by decide), a64 h.a h.b, a64 h.a h.c, a64 h.b h.c, x64 (w32_bits _ _ _) (w32_bits _ _ _), x64 (w32_bits _ _ _) (w32_bits _ _ _)]
    rfl
  unfold St8.step
  rw [← e1, ← e2]
  generalize s.r1 k x = y
  generalize s.r2 = z
  congr 1 <;> omega
end Go.Proofs.YtkceaepbjdfccaaDoor
/-
letheref02.schedule.
-/
namespace Go.Proofs.YtkceaepbjdfccaaDoor
open Go.RowKit
def u64s (l : List Int) : Array Value := (l.map (Value.int .u64)).toArray
theorem u64s_size (l : List Int) : (u64s l).size = l.length := by simp [u64s]
theorem u64s_getD (l : List Int) (i : Nat) (h : i < l.length) : (u64s l)[i]? = some (.int .u64 (l.getD i 0)) := by rw [u64s, List.getElem?_toArray, List.getElem?_map, List.getElem?_eq_getElem h, List.getD_eq_getElem?_getD, List.getElem?_eq_getElem h]; rfl
theorem u64s_set (l : List Int) (i : Nat) (x : Int) : (u64s l).setIfInBounds i (.int .u64 x) = u64s (l.set i x) := by
  apply Array.ext'; simp [u64s, List.map_set]
theorem one_u64s (l : List Int) : (u64s l).all (·.oneCell') = true := by
  refine Array.all_eq_true_iff_forall_mem.2 (fun v hv => ?_)
  simp only [u64s, List.mem_toArray, List.mem_map] at hv
  obtain ⟨x, _, rfl⟩ := hv
  rfl
/-- what lies where, while a schedule is reckoned -/
structure RM (w W : World) (A : Nat) (bl ws : List Int) : Prop where
  k : Kp [] w W
  hA : w.heap.size ≤ A
  h0 : W.heap[A]? = some (.cells (u8s bl) 127 (0, 0))
  h1 : W.heap[A + 1]? = some (.cells (u64s (List.replicate 64 0)) 168 (0, 0))
  h2 : W.heap[A + 1 + 1]? = some (.cells (u64s ws) 168 (0, 0))
theorem RM.drew {w W : World} {A : Nat} {bl ws : List Int} (h : RM w W A bl ws) : RM w W.drew A bl ws := ⟨h.k.drew, h.hA, h.h0, h.h1, h.h2⟩
theorem RM.drewN {w W : World} {A : Nat} {bl ws : List Int} (h : RM w W A bl ws) (n : Nat) : RM w (W.drewN n) A bl ws := ⟨h.k.drewN n, h.hA, h.h0, h.h1, h.h2⟩
theorem RM.set {w W : World} {A : Nat} {bl ws : List Int} (h : RM w W A bl ws) (j : Nat) (x : Int) : RM w (W.setCell ⟨A + 1 + 1, j, none⟩ (.int .u64 x)) A bl (ws.set j x) := by
  have k : Kp [A + 1 + 1] W (W.setCell ⟨A + 1 + 1, j, none⟩ (.int .u64 x)) := (Kp.refl _ W).setCell (.inl (by simp)) _
  have hA := h.hA
  refine ⟨h.k.trans k (fun m hm => by rw [List.mem_singleton] at hm; subst hm; exact .inr (by omega)), hA, k.heap h.h0 (by simp; omega), k.heap h.h1 (by simp), ?_⟩
  rw [← u64s_set]
  exact heap_setCell_same W _ j _ _ (.int .u64 x) h.h2
theorem RM.res {w W : World} {A : Nat} {bl ws : List Int} (h : RM w W A bl ws) (cs : Array Value) : Kp [] w (W.setRow (A + 1) cs) ∧ (W.setRow (A + 1) cs).heap[A + 1]? = some (.cells cs 168 (0, 0)) := by
  have hA := h.hA
  have k : Kp [A + 1] W (W.setRow (A + 1) cs) := ⟨rfl, rfl, rfl, by simp, fun j _ hn => setRow_other _ _ _ _ (by simpa using hn)⟩
  exact ⟨h.k.trans k (fun m hm => by rw [List.mem_singleton] at hm; subst hm; exact .inr (by omega)), setRow_heap W _ _ _ _ _ h.h1⟩
/-- a word, so many of its bytes taken -/
def part (bl : List Int) (t : Nat) : Nat → Int
  | 0 => 0
  | k + 1 => part bl t k * 256 + bl.getD (4 * t + k) 0
theorem b8_getD {bl : List Int} (h : ∀ x ∈ bl, B8 x) (i : Nat) : B8 (bl.getD i 0) := by
  rw [List.getD_eq_getElem?_getD]
  by_cases hi : i < bl.length
  · rw [List.getElem?_eq_getElem hi]; exact h _ (List.getElem_mem hi)
  · rw [List.getElem?_eq_none (by omega)]; exact ⟨by decide, by decide⟩
theorem part_rng {bl : List Int} (h : ∀ x ∈ bl, B8 x) (t : Nat) (k : Nat) (hk : k ≤ 3) : 0 ≤ part bl t k ∧ part bl t k < 16777216 := by
  have h0 := b8_getD h (4 * t + 0)
  have h1 := b8_getD h (4 * t + 1)
  have h2 := b8_getD h (4 * t + 2)
  unfold B8 at h0 h1 h2
  have : k = 0 ∨ k = 1 ∨ k = 2 ∨ k = 3 := by omega
  rcases this with rfl | rfl | rfl | rfl <;> simp only [part] <;> omega
theorem part_word {bl : List Int} (h : ∀ x ∈ bl, B8 x) (t : Nat) : part bl t 4 = word (bl.getD (4 * t) 0) (bl.getD (4 * t + 1) 0) (bl.getD (4 * t + 2) 0) (bl.getD (4 * t + 3) 0) := by
  rw [word_eq (b8_getD h _) (b8_getD h _) (b8_getD h _) (b8_getD h _)]
  simp [part]
theorem sch1_late (bl : List Int) : ∀ t i, t ≤ i → (sch1 bl t)[i]? = (List.replicate 64 (0 : Int))[i]?
  | 0, _, _ => rfl
  | t + 1, i, h => by
    rw [sch1, List.getElem?_set_ne (by omega)]
    exact sch1_late bl t i (by omega)
theorem sch1_set0 (bl : List Int) (t : Nat) (ht : t < 64) : (sch1 bl t).set t 0 = sch1 bl t := by
  apply List.ext_getElem?
  intro i
  by_cases hi : i = t
  · subst hi
    rw [List.getElem?_set_self (by rw [sch1_len]; exact ht), sch1_late bl i i (Nat.le_refl _), List.getElem?_replicate, if_pos ht]
  · rw [List.getElem?_set_ne (by omega)]
theorem three_rows (w : World) (a b c : Obj) : ((((w.alloc a).alloc b).alloc c).heap[w.heap.size]? = some a) ∧ ((((w.alloc a).alloc b).alloc c).heap[w.heap.size + 1]? = some b) ∧
    ((((w.alloc a).alloc b).alloc c).heap[w.heap.size + 1 + 1]? = some c) := by
  have e1 : (w.alloc a).heap.size = w.heap.size + 1 := by simp
  have e2 : ((w.alloc a).alloc b).heap.size = w.heap.size + 1 + 1 := by simp
  have r0 := heap_alloc_new w a
  have r1 := heap_alloc_new (w.alloc a) b
  have r2 := heap_alloc_new ((w.alloc a).alloc b) c
  rw [e1] at r1
  rw [e2] at r2
  refine ⟨?_, ?_, r2⟩
  · rw [heap_alloc_old _ c (by rw [e2]; omega), heap_alloc_old _ b (by rw [e1]; omega)]; exact r0
  · rw [heap_alloc_old _ c (by rw [e2]; omega)]; exact r1
set_option maxRecDepth 100000 in
set_option maxHeartbeats 1000000 in
theorem schedule_any (bl : List Int) (hbl : bl.length = 64) (hb8 : ∀ x ∈ bl, B8 x) (w : World) :
    Calls Tryd.prog 91 #[.agg (u8s bl)] w fun e w' => e = .returned (.agg (u64s (sch2 bl 48))) ∧ Kp [] w w' := by
  have HB := Lib.hid hbl
  have HB8 := Lib.hid hb8
  clear hbl hb8
  go_enter Tryd.func91, Tryd.ntmps91
  go_upto_block 0 with fail
  have HM : Hid (RM w (((w.alloc (.cells (u8s bl) 127)).alloc (.cells (u64s (List.replicate 64 0)) 168)).alloc (.cells (u64s (List.replicate 64 0)) 168)) w.heap.size bl (List.replicate 64 0)) := Lib.hid (by
    obtain ⟨r0, r1, r2⟩ := three_rows w (.cells (u8s bl) 127) (.cells (u64s (List.replicate 64 0)) 168) (.cells (u64s (List.replicate 64 0)) 168)
    exact ⟨(((Kp.refl [] w).alloc _).alloc _).alloc _, Nat.le_refl _, r0, r1, r2⟩)
  generalize hA : w.heap.size = A at *
  clear hA
  go_cut [4, 5] (fun _ _ w' => Hid (RM w w' A bl (sch1 bl 16)))
  case first =>
    go_wp2_with fail
    go_loopw [4, 5] (fun i _ wr => ∃ t : Nat, t ≤ 16 ∧ i = .int .i64 t ∧ Hid (RM w wr A bl (sch1 bl t))) (fun i _ _ => 16 - (intOf i).toNat)
    case atStart => exact ⟨0, Nat.zero_le _, rfl, HM⟩
    case round =>
      obtain ⟨t, ht, rfl, HR⟩ := hrel
      by_cases hlt : t < 16
      · have hltI : (t : Int) < 16 := by omega
        go_wp2_with fail
        go_loopw [5] (fun j wx => ∃ k : Nat, k ≤ 4 ∧ j = .int .i64 k ∧ Hid (RM w wx A bl ((sch1 bl t).set t (part bl t k)))) (fun j _ => 4 - (intOf j).toNat)
        case atStart => exact ⟨0, Nat.zero_le _, rfl, Lib.hid (by rw [show part bl t 0 = 0 from rfl, sch1_set0 bl t (by omega)]; exact HR.out)⟩
        case round =>
          clear HR
          obtain ⟨k, hk, rfl, HR⟩ := hrel
          by_cases hlk : k < 4
          · have hlkI : (k : Int) < 4 := by omega
            have b0 : wr.cell? ⟨A, 4 * t + k, none⟩ = some (.int .u8 (bl.getD (4 * t + k) 0)) := by
              rw [cell_of_row _ _ _ _ _ _ HR.out.h0, u8s_getD _ _ (by rw [HB.out]; omega)]
            have c0 : wr.cell? ⟨A + 1 + 1, t, none⟩ = some (.int .u64 (part bl t k)) := by
              rw [cell_of_row _ _ _ _ _ _ HR.out.h2, u64s_getD _ _ (by rw [List.length_set, sch1_len]; omega), List.getD_eq_getElem?_getD, List.getElem?_set_self (by rw [sch1_len]; omega)]
              rfl
            have cf : wr.frozen? ⟨A + 1 + 1, t, none⟩ = false := frozen_of_row wr _ t _ _ HR.out.h2
            have HST : Hid (part bl t (k + 1) = part bl t k * 256 + bl.getD (4 * t + k) 0) := Lib.hid rfl
            have HSS : Hid (∀ y, ((sch1 bl t).set t (part bl t k)).set t y = (sch1 bl t).set t y) := Lib.hid (fun y => by simp)
            have hp := part_rng HB8.out t k (by omega)
            have hb := b8_getD HB8.out (4 * t + k)
            unfold B8 at hb
            generalize part bl t k = y at *
            generalize bl.getD (4 * t + k) 0 = x at *
            have i0 : (0 : Int) ≤ 4 * (t : Int) + (k : Int) := by omega
            have i1 : 4 * (t : Int) + (k : Int) < 64 := by omega
            have i5 : (t : Int) < 64 := by omega
            have w0 : IntKind.i64.wrap (4 * (t : Int)) = 4 * (t : Int) := IntWalk.i64_in _ (by omega)
            have w1 : IntKind.i64.wrap (4 * (t : Int) + (k : Int)) = 4 * (t : Int) + (k : Int) := IntWalk.i64_in _ (by omega)
            have n1 : (4 * (t : Int) + (k : Int)).toNat = 4 * t + k := by omega
            have v1 : IntKind.u64.wrap (y * 256) = y * 256 := by rw [IntKind.wrap_u64]; omega
            have v2 : IntKind.u64.wrap (y * 256 + x) = y * 256 + x := by rw [IntKind.wrap_u64]; omega
            have v3 : IntKind.u64.wrap x = x := by rw [IntKind.wrap_u64]; omega
            go_wp2_with fail
            go_still_tail 14, (by kernel_rfl)
            go_wp2_with fail
            go_roundw
            case rel => exact ⟨k + 1, by omega, by go_num, Lib.hid (by have h := (HR.out.set t (y * 256 + x)).drew; rw [HSS.out] at h; rw [HST.out]; exact h)⟩
            case measure => simp [intOf]; omega
          · have hlkI : ¬ (k : Int) < 4 := by omega
            obtain rfl : k = 4 := by omega
            have HW : Hid ((sch1 bl t).set t (part bl t 4) = sch1 bl (t + 1)) := Lib.hid (by rw [part_word HB8.out t]; rfl)
            have HR2 : Hid (RM w wr A bl (sch1 bl (t + 1))) := Lib.hid (by have h := HR.out; rw [HW.out] at h; exact h)
            clear HR
            go_wp2_with fail
            go_roundw
            case rel => exact ⟨t + 1, by omega, by go_num, HR2⟩
            case measure => simp [intOf]; omega
      · have ht16 : t = 16 := by omega
        subst ht16
        go_wp2_with fail
        go_meet
        exact HR
  case rest =>
    have HM2 := Lib.hid hcut.out
    clear hcut HM
    go_upto_block 4 with fail
    go_cut [6, 7, 8] (fun _ _ _ w' => Hid (RM w w' A bl (sch2 bl 48)))
    case first =>
      go_wp2_with fail
      go_loopw [6, 7, 8] (fun i _ _ wr => ∃ t : Nat, 16 ≤ t ∧ t ≤ 64 ∧ i = .int .i64 t ∧ Hid (RM w wr A bl (sch2 bl (t - 16)))) (fun i _ _ _ => 64 - (intOf i).toNat)
      case atStart => exact ⟨16, Nat.le_refl _, by decide, rfl, HM2⟩
      case round =>
        obtain ⟨t, ht0, ht, rfl, HR⟩ := hrel
        by_cases hlt : t < 64
        · have hltI : (t : Int) < 64 := by omega
          obtain ⟨k, hk⟩ : ∃ k, k = t - 16 := ⟨_, rfl⟩
          have c1 : wr.cell? ⟨A + 1 + 1, t - 15, none⟩ = some (.int .u64 ((sch2 bl k).getD (k + 16 - 15) 0)) := by
            rw [cell_of_row _ _ _ _ _ _ HR.out.h2, u64s_getD _ _ (by rw [sch2_len]; omega), ← hk, show k + 16 - 15 = t - 15 by omega]
          have c2 : wr.cell? ⟨A + 1 + 1, t - 2, none⟩ = some (.int .u64 ((sch2 bl k).getD (k + 16 - 2) 0)) := by
            rw [cell_of_row _ _ _ _ _ _ HR.out.h2, u64s_getD _ _ (by rw [sch2_len]; omega), ← hk, show k + 16 - 2 = t - 2 by omega]
          have c3 : wr.cell? ⟨A + 1 + 1, t - 7, none⟩ = some (.int .u64 ((sch2 bl k).getD (k + 16 - 7) 0)) := by
            rw [cell_of_row _ _ _ _ _ _ HR.out.h2, u64s_getD _ _ (by rw [sch2_len]; omega), ← hk, show k + 16 - 7 = t - 7 by omega]
          have c4 : wr.cell? ⟨A + 1 + 1, t - 16, none⟩ = some (.int .u64 ((sch2 bl k).getD (k + 16 - 16) 0)) := by
            rw [cell_of_row _ _ _ _ _ _ HR.out.h2, u64s_getD _ _ (by rw [sch2_len]; omega), show k + 16 - 16 = t - 16 by omega, hk]
          have c0 : wr.cell? ⟨A + 1 + 1, t, none⟩ = some (.int .u64 ((sch2 bl k).getD t 0)) := by
            rw [cell_of_row _ _ _ _ _ _ HR.out.h2, u64s_getD _ _ (by rw [sch2_len]; omega), ← hk]
          have cf : wr.frozen? ⟨A + 1 + 1, t, none⟩ = false := frozen_of_row wr _ t _ _ HR.out.h2
          have HST : Hid (sch2 bl (t + 1 - 16) = (sch2 bl k).set t (mix ((sch2 bl k).getD (k + 16 - 15) 0) ((sch2 bl k).getD (k + 16 - 2) 0) ((sch2 bl k).getD (k + 16 - 7) 0) ((sch2 bl k).getD (k + 16 - 16) 0))) := Lib.hid (by
            rw [show t + 1 - 16 = k + 1 by omega, show t = k + 16 by omega]; rfl)
          have HK2 := Lib.hid hk
          have hx := w32_getD (w32_sch2 bl k) (k + 16 - 15)
          have hy := w32_getD (w32_sch2 bl k) (k + 16 - 2)
          have hp := w32_getD (w32_sch2 bl k) (k + 16 - 7)
          have hq := w32_getD (w32_sch2 bl k) (k + 16 - 16)
          clear hk
          generalize (sch2 bl k).getD (k + 16 - 15) 0 = x at *
          generalize (sch2 bl k).getD (k + 16 - 2) 0 = y at *
          generalize (sch2 bl k).getD (k + 16 - 7) 0 = p at *
          generalize (sch2 bl k).getD (k + 16 - 16) 0 = q at *
          generalize (sch2 bl k).getD t 0 = z at *
          have HMX := Lib.hid (mix_eq (p := p) (q := q) hx hy)
          have hs0 : W32 (bits .xor .u64 (bits .xor .u64 (turns x 7) (turns x 18)) (moves x 3)) := by rw [sig2 hx 7 18 3 (by decide) (by decide)]; exact w32_bits _ _ _
          have hs1 : W32 (bits .xor .u64 (bits .xor .u64 (turns y 17) (turns y 19)) (moves y 10)) := by rw [sig2 hy 17 19 10 (by decide) (by decide)]; exact w32_bits _ _ _
          have H7 : Hid (∀ W, Calls Tryd.prog 92 #[.int .i64 7, .int .u64 x] W fun e w' => e = .returned (.int .u64 (turns x 7)) ∧ W = w') := Lib.hid (fun W => turn_any 7 x (by decide) hx.1 hx.2 W)
          have H18 : Hid (∀ W, Calls Tryd.prog 92 #[.int .i64 18, .int .u64 x] W fun e w' => e = .returned (.int .u64 (turns x 18)) ∧ W = w') := Lib.hid (fun W => turn_any 18 x (by decide) hx.1 hx.2 W)
          have H3 : Hid (∀ W, Calls Tryd.prog 93 #[.int .i64 3, .int .u64 x] W fun e w' => e = .returned (.int .u64 (moves x 3)) ∧ W = w') := Lib.hid (fun W => move_any 3 x (by decide) hx.1 hx.2 W)
          have H17 : Hid (∀ W, Calls Tryd.prog 92 #[.int .i64 17, .int .u64 y] W fun e w' => e = .returned (.int .u64 (turns y 17)) ∧ W = w') := Lib.hid (fun W => turn_any 17 y (by decide) hy.1 hy.2 W)
          have H19 : Hid (∀ W, Calls Tryd.prog 92 #[.int .i64 19, .int .u64 y] W fun e w' => e = .returned (.int .u64 (turns y 19)) ∧ W = w') := Lib.hid (fun W => turn_any 19 y (by decide) hy.1 hy.2 W)
          have H10 : Hid (∀ W, Calls Tryd.prog 93 #[.int .i64 10, .int .u64 y] W fun e w' => e = .returned (.int .u64 (moves y 10)) ∧ W = w') := Lib.hid (fun W => move_any 10 y (by decide) hy.1 hy.2 W)
          generalize turns x 7 = x7 at *
          generalize turns x 18 = x18 at *
          generalize moves x 3 = x3 at *
          generalize turns y 17 = y17 at *
          generalize turns y 19 = y19 at *
          generalize moves y 10 = y10 at *
          have i0 : (0 : Int) ≤ (t : Int) - 15 := by omega
          have i1 : (t : Int) - 15 < 64 := by omega
          have i2 : (0 : Int) ≤ (t : Int) - 2 := by omega
          have i3 : (t : Int) - 2 < 64 := by omega
          have i4 : (0 : Int) ≤ (t : Int) - 7 := by omega
          have i5 : (t : Int) - 7 < 64 := by omega
          have i6 : (0 : Int) ≤ (t : Int) - 16 := by omega
          have i7 : (t : Int) - 16 < 64 := by omega
          have q1 : (7 : Int) ≤ (t : Int) := by omega
          have q2 : (16 : Int) ≤ (t : Int) := by omega
          have q3 : (15 : Int) ≤ (t : Int) := by omega
          have q4 : (2 : Int) ≤ (t : Int) := by omega
          have w0 : IntKind.i64.wrap ((t : Int) - 15) = (t : Int) - 15 := IntWalk.i64_in _ (by omega)
          have w1 : IntKind.i64.wrap ((t : Int) - 2) = (t : Int) - 2 := IntWalk.i64_in _ (by omega)
          have w2 : IntKind.i64.wrap ((t : Int) - 7) = (t : Int) - 7 := IntWalk.i64_in _ (by omega)
          have w3 : IntKind.i64.wrap ((t : Int) - 16) = (t : Int) - 16 := IntWalk.i64_in _ (by omega)
          have n0 : ((t : Int) - 15).toNat = t - 15 := by omega
          have n1 : ((t : Int) - 2).toNat = t - 2 := by omega
          have n2 : ((t : Int) - 7).toNat = t - 7 := by omega
          have n3 : ((t : Int) - 16).toNat = t - 16 := by omega
          go_wp2_with fail
          go_quiet ((first | (go_at_call 92; (first | (with_reducible exact quietS (H7.out _)) | (with_reducible exact quietS (H18.out _)))) | (go_at_call 93; (with_reducible exact quietS (H3.out _)))))
          generalize bits .xor .u64 (bits .xor .u64 x7 x18) x3 = s0 at *
          have HR2 := Lib.hid (HR.out.drewN nq)
          have d2 : (wr.drewN nq).cell? ⟨A + 1 + 1, t - 2, none⟩ = some (.int .u64 y) := c2
          have d3 : (wr.drewN nq).cell? ⟨A + 1 + 1, t - 7, none⟩ = some (.int .u64 p) := c3
          have d4 : (wr.drewN nq).cell? ⟨A + 1 + 1, t - 16, none⟩ = some (.int .u64 q) := c4
          have d0 : (wr.drewN nq).cell? ⟨A + 1 + 1, t, none⟩ = some (.int .u64 z) := c0
          have df : (wr.drewN nq).frozen? ⟨A + 1 + 1, t, none⟩ = false := cf
          clear HR c0 c1 c2 c3 c4 cf H7 H18 H3
          generalize wr.drewN nq = wz at *
          go_wp2_with fail
          go_quiet ((first | (go_at_call 92; (first | (with_reducible exact quietS (H17.out _)) | (with_reducible exact quietS (H19.out _)))) | (go_at_call 93; (with_reducible exact quietS (H10.out _)))))
          generalize bits .xor .u64 (bits .xor .u64 y17 y19) y10 = s1 at *
          have HR3 := Lib.hid (HR2.out.drewN nq)
          have e3 : (wz.drewN nq).cell? ⟨A + 1 + 1, t - 7, none⟩ = some (.int .u64 p) := d3
          have e4 : (wz.drewN nq).cell? ⟨A + 1 + 1, t - 16, none⟩ = some (.int .u64 q) := d4
          have e0 : (wz.drewN nq).cell? ⟨A + 1 + 1, t, none⟩ = some (.int .u64 z) := d0
          have ef : (wz.drewN nq).frozen? ⟨A + 1 + 1, t, none⟩ = false := df
          clear HR2 d0 d2 d3 d4 df H17 H19 H10
          generalize wz.drewN nq = wy at *
          unfold W32 at hs0 hs1 hp hq
          have v1 : IntKind.u64.wrap (s1 + p) = s1 + p := by rw [IntKind.wrap_u64]; omega
          have v2 : IntKind.u64.wrap (s1 + p + s0) = s1 + p + s0 := by rw [IntKind.wrap_u64]; omega
          have v3 : IntKind.u64.wrap (s1 + p + s0 + q) = s1 + p + s0 + q := by rw [IntKind.wrap_u64]; omega
          have v4 : 0 ≤ s1 + p + s0 + q := by omega
          go_wp2_with fail
          go_still_tail 16, (by kernel_rfl)
          go_wp2_with fail
          go_roundw
          case rel => exact ⟨t + 1, by omega, by omega, by go_num, Lib.hid (by rw [HST.out, ← HMX.out, HK2.out]; exact (HR3.out.set t _).drew)⟩
          case measure => simp [intOf]; omega
        · have ht64 : t = 64 := by omega
          subst ht64
          go_wp2_with fail
          go_meet
          exact HR
    case rest =>
      have HM3 := Lib.hid hcut.out
      clear hcut HM2
      have hsz : (u64s (sch2 bl 48)).size = 64 := by rw [u64s_size, sch2_len]
      have HZ := Lib.hid hsz
      clear hsz
      go_wp2_with (first | (refine wpList_load_row (by rfl) 168 (.tmp 3) (by rfl) (A + 1 + 1) (by rfl) 168 (u64s (sch2 bl 48)) (0, 0) _ HM3.out.h2 Tryd.underlying168 rfl (by rw [HZ.out]; kernel_rfl) ?_) | (refine wpList_store_row (by rfl) 168 (.tmp 2) (.tmp 85) (by rfl) (A + 1) (u64s (sch2 bl 48)) (by rfl) (by rfl) 168 _ HM3.out.h1 (by rw [HZ.out]; kernel_rfl) (by rw [HZ.out, u64s_size, List.length_replicate]) (one_u64s _) ?_))
      obtain ⟨r1, r2⟩ := HM3.out.res (u64s (sch2 bl 48))
      exact bodyPost_ret (results_cell_row rfl _ _ (A + 1) 168 _ (0, 0) _ rfl r2 Tryd.underlying168 rfl (by rw [HZ.out]; kernel_rfl)) rfl ⟨rfl, r1⟩
end Go.Proofs.YtkceaepbjdfccaaDoor
/-
letheref02.Block.
-/
namespace Go.Proofs.YtkceaepbjdfccaaDoor
open Go.RowKit
/-- what lies where, while a block is taken in -/
structure BM (w W : World) (A B : Nat) (st bl vs : List Int) : Prop where
  k : Kp [] w W
  hA : w.heap.size ≤ A
  hB : A + 2 < B
  h0 : W.heap[A]? = some (.cells (u32s st) 126 (0, 0))
  h2 : W.heap[A + 1 + 1]? = some (.cells (u32s (List.replicate 8 0)) 126 (0, 0))
  h3 : W.heap[B]? = some (.cells (u64s (sch2 bl 48)) 168 (0, 0))
  h4 : W.heap[B + 1]? = some (.cells (u64s vs) 167 (0, 0))
theorem BM.drew {w W : World} {A B : Nat} {st bl vs : List Int} (h : BM w W A B st bl vs) : BM w W.drew A B st bl vs := ⟨h.k.drew, h.hA, h.hB, h.h0, h.h2, h.h3, h.h4⟩
theorem BM.drewN {w W : World} {A B : Nat} {st bl vs : List Int} (h : BM w W A B st bl vs) (n : Nat) : BM w (W.drewN n) A B st bl vs := ⟨h.k.drewN n, h.hA, h.hB, h.h0, h.h2, h.h3, h.h4⟩
theorem BM.setV {w W : World} {A B : Nat} {st bl vs : List Int} (h : BM w W A B st bl vs) (j : Nat) (x : Int) : BM w (W.setCell ⟨B + 1, j, none⟩ (.int .u64 x)) A B st bl (vs.set j x) := by
  have k : Kp [B + 1] W (W.setCell ⟨B + 1, j, none⟩ (.int .u64 x)) := (Kp.refl _ W).setCell (.inl (by simp)) _
  have hA := h.hA
  have hB := h.hB
  refine ⟨h.k.trans k (fun m hm => by rw [List.mem_singleton] at hm; subst hm; exact .inr (by omega)), hA, hB, k.heap h.h0 (by simp; omega), k.heap h.h2 (by simp; omega), k.heap h.h3 (by simp), ?_⟩
  rw [← u64s_set]
  exact heap_setCell_same W _ j _ _ (.int .u64 x) h.h4
theorem BM.setS {w W : World} {A B : Nat} {st bl vs : List Int} (h : BM w W A B st bl vs) (j : Nat) (x : Int) : BM w (W.setCell ⟨A, j, none⟩ (.int .u32 x)) A B (st.set j x) bl vs := by
  have k : Kp [A] W (W.setCell ⟨A, j, none⟩ (.int .u32 x)) := (Kp.refl _ W).setCell (.inl (by simp)) _
  have hA := h.hA
  have hB := h.hB
  refine ⟨h.k.trans k (fun m hm => by rw [List.mem_singleton] at hm; subst hm; exact .inr (by omega)), hA, hB, ?_, k.heap h.h2 (by simp; omega), k.heap h.h3 (by simp; omega), k.heap h.h4 (by simp; omega)⟩
  rw [← u32s_set]
  exact heap_setCell_same W _ j _ _ (.int .u32 x) h.h0
theorem bm_lay0 (w wN : World) (S8 S64 Z8 Y64 Y8 X64 : Array Value) (hN : Kp [] (((w.alloc (.cells S8 126)).alloc (.cells S64 127)).alloc (.cells Z8 126)) wN) :
    ∃ W3, W3 = (((wN.alloc (.cells Y64 168)).setRow wN.heap.size X64).alloc (.cells Y8 167)) ∧ Kp [] w W3 ∧ w.heap.size + 2 < wN.heap.size ∧ W3.heap[w.heap.size]? = some (.cells S8 126) ∧ W3.heap[w.heap.size + 1 + 1]? = some (.cells Z8 126) ∧
      W3.heap[wN.heap.size]? = some (.cells X64 168) ∧ W3.heap[wN.heap.size + 1]? = some (.cells Y8 167) := by
  obtain ⟨r0, _, r2⟩ := three_rows w (.cells S8 126) (.cells S64 127) (.cells Z8 126)
  have k0 : Kp [] w (((w.alloc (.cells S8 126)).alloc (.cells S64 127)).alloc (.cells Z8 126)) := (((Kp.refl [] w).alloc _).alloc _).alloc _
  have hz : w.heap.size + 3 ≤ wN.heap.size := by have := hN.size; simp at this; omega
  have k1 : Kp [] wN (wN.alloc (.cells Y64 168)) := (Kp.refl [] wN).alloc _
  have k2 : Kp [wN.heap.size] (wN.alloc (.cells Y64 168)) ((wN.alloc (.cells Y64 168)).setRow wN.heap.size X64) := ⟨rfl, rfl, rfl, by simp, fun j _ hn => setRow_other _ _ _ _ (by simpa using hn)⟩
  have k12 : Kp [] wN ((wN.alloc (.cells Y64 168)).setRow wN.heap.size X64) := k1.trans k2 (fun m hm => by rw [List.mem_singleton] at hm; subst hm; exact .inr (Nat.le_refl _))
  have s3 : ((wN.alloc (.cells Y64 168)).setRow wN.heap.size X64).heap[wN.heap.size]? = some (.cells X64 168) := setRow_heap _ _ _ _ _ _ (heap_alloc_new wN (.cells Y64 168))
  have hs2 : ((wN.alloc (.cells Y64 168)).setRow wN.heap.size X64).heap.size = wN.heap.size + 1 := by simp
  generalize (wN.alloc (.cells Y64 168)).setRow wN.heap.size X64 = W2 at *
  have kN := hN.trans0 k12
  have s4 := heap_alloc_new W2 (.cells Y8 167)
  rw [hs2] at s4
  have k3 : Kp [] W2 (W2.alloc (.cells Y8 167)) := (Kp.refl [] W2).alloc _
  have kA := kN.trans0 k3
  exact ⟨_, rfl, k0.trans0 kA, by omega, kA.heap r0 (by simp), kA.heap r2 (by simp), k3.heap s3 (by simp), s4⟩
theorem bm_lay (w wN : World) (st bl : List Int) (hN : Kp [] (((w.alloc (.cells (u32s st) 126)).alloc (.cells (u8s bl) 127)).alloc (.cells (u32s (List.replicate 8 0)) 126)) wN) :
    BM w (((wN.alloc (.cells (u64s (List.replicate 64 0)) 168)).setRow wN.heap.size (u64s (sch2 bl 48))).alloc (.cells (u64s (List.replicate 8 0)) 167)) w.heap.size wN.heap.size st bl (List.replicate 8 0) := by
  obtain ⟨W3, h, h1, h2, h3, h4, h5, h6⟩ := bm_lay0 w wN _ _ _ (u64s (List.replicate 64 0)) (u64s (List.replicate 8 0)) (u64s (sch2 bl 48)) hN
  rw [← h]
  exact ⟨h1, Nat.le_refl _, h2, h3, h4, h5, h6⟩
theorem BM.res {w W : World} {A B : Nat} {st bl vs : List Int} (h : BM w W A B st bl vs) (cs : Array Value) : Kp [] w (W.setRow (A + 1 + 1) cs) ∧ (W.setRow (A + 1 + 1) cs).heap[A + 1 + 1]? = some (.cells cs 126 (0, 0)) := by
  have hA := h.hA
  have k : Kp [A + 1 + 1] W (W.setRow (A + 1 + 1) cs) := ⟨rfl, rfl, rfl, by simp, fun j _ hn => setRow_other _ _ _ _ (by simpa using hn)⟩
  exact ⟨h.k.trans k (fun m hm => by rw [List.mem_singleton] at hm; subst hm; exact .inr (by omega)), setRow_heap W _ _ _ _ _ h.h2⟩
/-- the eight words, so many laid -/
def lay8 (st : List Int) : Nat → List Int
  | 0 => List.replicate 8 0
  | i + 1 => (lay8 st i).set i (st.getD i 0)
theorem lay8_len (st : List Int) : ∀ i, (lay8 st i).length = 8
  | 0 => by simp [lay8]
  | i + 1 => by rw [lay8, List.length_set]; exact lay8_len st i
/-- the eight words, so many of them moved on by one -/
def down (l : List Int) : Nat → List Int
  | 0 => l
  | j + 1 => (down l j).set (7 - j) ((down l j).getD (7 - j - 1) 0)
theorem down_len (l : List Int) : ∀ j, (down l j).length = l.length
  | 0 => rfl
  | j + 1 => by rw [down, List.length_set]; exact down_len l j
theorem rounds_W (kk ws : List Int) {s : St8} (h : s.W) : ∀ t, (rounds kk ws s t).W
  | 0 => h
  | t + 1 => (rounds_W kk ws h t).step _ _
set_option maxRecDepth 100000 in
set_option maxHeartbeats 1000000 in
theorem block_any (st bl kk : List Int) (hst : st.length = 8) (hs32 : ∀ x ∈ st, W32 x) (hbl : bl.length = 64) (hb8 : ∀ x ∈ bl, B8 x) (hkk : kk.length = 64) (hk32 : ∀ x ∈ kk, W32 x) (w : World) {T : TypeId} (fr : Nat × Nat)
    (hg : w.heap[3]? = some (.cells (u64s kk) T fr)) :
    Calls Tryd.prog 85 #[.agg (u32s st), .agg (u8s bl)] w fun e w' => e = .returned (.agg (u32s (comp kk st bl))) ∧ Kp [] w w' := by
  have HC : Hid (comp kk st bl = fin8 st (St8.l (rounds kk (sch2 bl 48) ⟨st.getD 0 0, st.getD 1 0, st.getD 2 0, st.getD 3 0, st.getD 4 0, st.getD 5 0, st.getD 6 0, st.getD 7 0⟩ 64)) 8) := Lib.hid rfl
  generalize comp kk st bl = res at *
  have HS := Lib.hid hst
  have HB := Lib.hid hbl
  have HK := Lib.hid hkk
  have HS32 := Lib.hid hs32
  have HK32 := Lib.hid hk32
  have HSC := Lib.hid (fun W => schedule_any bl hbl hb8 W)
  have HZB : Hid ((u8s bl).size = 64) := Lib.hid (by rw [u8s_size, hbl])
  have HG : Hid (∀ w', Kp [] w w' → w'.heap[3]? = some (.cells (u64s kk) T fr)) := Lib.hid (fun w' k => k.heap hg (by simp))
  have hzs : (u64s (sch2 bl 48)).size = 64 := by rw [u64s_size, sch2_len]
  have HZS := Lib.hid hzs
  clear hst hbl hkk hg hs32 hk32 hzs hb8
  have h0 := three_rows w (.cells (u32s st) 126) (.cells (u8s bl) 127) (.cells (u32s (List.replicate 8 0)) 126)
  have k0 : Kp [] w (((w.alloc (.cells (u32s st) 126)).alloc (.cells (u8s bl) 127)).alloc (.cells (u32s (List.replicate 8 0)) 126)) := (((Kp.refl [] w).alloc _).alloc _).alloc _
  have h0b := h0.2.1
  go_enter Tryd.func85, Tryd.ntmps85
  go_upto_block 0 with (first
    | (refine wpList_load_row (by rfl) 127 (.tmp 3) (by rfl) (w.heap.size + 1) (by rfl) 127 (u8s bl) (0, 0) _ h0b Tryd.underlying127 rfl (by rw [HZB.out]; kernel_rfl) ?_)
    | (go_at_call 91; (with_reducible refine (HSC.out _).mono ?_); rintro _ wN ⟨rfl, hN⟩)
    | (refine wpList_store_row (by rfl) 168 (.tmp 5) (.tmp 20) (by rfl) wN.heap.size (u64s (sch2 bl 48)) (by rfl) (by rfl) 168 (u64s (List.replicate 64 0)) (heap_alloc_new wN _) (by rw [HZS.out]; kernel_rfl) (by rw [HZS.out]; rfl) (one_u64s _) ?_))
  have HM := Lib.hid (bm_lay w wN st bl hN)
  clear hN HSC HZB HZS h0b h0 k0
  generalize hA : w.heap.size = A at *
  generalize hWB : wN.heap.size = B at *
  have HM : Hid (BM w _ A B st bl (List.replicate 8 0)) := HM
  clear hA hWB
  go_cut [7] (fun _ w' => Hid (BM w w' A B st bl (lay8 st 8)))
  case first =>
    go_wp2_with fail
    go_loopw [7] (fun i wr => ∃ t : Nat, t ≤ 8 ∧ i = .int .i64 t ∧ Hid (BM w wr A B st bl (lay8 st t))) (fun i _ => 8 - (intOf i).toNat)
    case atStart => exact ⟨0, Nat.zero_le _, rfl, HM⟩
    case round =>
      obtain ⟨t, ht, rfl, HR⟩ := hrel
      by_cases hlt : t < 8
      · have hltI : (t : Int) < 8 := by omega
        have c0 : wr.cell? ⟨A, t, none⟩ = some (.int .u32 (st.getD t 0)) := by
          rw [cell_of_row _ _ _ _ _ _ HR.out.h0, u32s_getD _ _ (by rw [HS.out]; omega)]
        have c1 : wr.cell? ⟨B + 1, t, none⟩ = some (.int .u64 ((lay8 st t).getD t 0)) := by
          rw [cell_of_row _ _ _ _ _ _ HR.out.h4, u64s_getD _ _ (by rw [lay8_len]; omega)]
        have cf : wr.frozen? ⟨B + 1, t, none⟩ = false := frozen_of_row wr _ t _ _ HR.out.h4
        have HST : Hid (lay8 st (t + 1) = (lay8 st t).set t (st.getD t 0)) := Lib.hid rfl
        have hx := w32_getD HS32.out t
        generalize st.getD t 0 = x at *
        generalize (lay8 st t).getD t 0 = y at *
        unfold W32 at hx
        have v1 : IntKind.u64.wrap x = x := by rw [IntKind.wrap_u64]; omega
        go_wp2_with fail
        go_roundw
        case rel => exact ⟨t + 1, by omega, by go_num, Lib.hid (by rw [HST.out]; exact HR.out.setV t x)⟩
        case measure => simp [intOf]; omega
      · have ht8 : t = 8 := by omega
        subst ht8
        go_wp2_with fail
        go_meet
        exact HR
  case rest =>
    have HM2 := Lib.hid hcut.out
    clear hcut HM
    have hW0 : St8.W ⟨st.getD 0 0, st.getD 1 0, st.getD 2 0, st.getD 3 0, st.getD 4 0, st.getD 5 0, st.getD 6 0, st.getD 7 0⟩ := ⟨w32_getD HS32.out 0, w32_getD HS32.out 1, w32_getD HS32.out 2, w32_getD HS32.out 3, w32_getD HS32.out 4, w32_getD HS32.out 5, w32_getD HS32.out 6, w32_getD HS32.out 7⟩
    have HM3 : Hid (BM w wc A B st bl (St8.l ⟨st.getD 0 0, st.getD 1 0, st.getD 2 0, st.getD 3 0, st.getD 4 0, st.getD 5 0, st.getD 6 0, st.getD 7 0⟩)) := HM2
    clear HM2
    generalize (⟨st.getD 0 0, st.getD 1 0, st.getD 2 0, st.getD 3 0, st.getD 4 0, st.getD 5 0, st.getD 6 0, st.getD 7 0⟩ : St8) = s0 at *
    have HRW := Lib.hid (rounds_W kk (sch2 bl 48) hW0)
    clear hW0
    go_upto_block 2 with fail
    go_cut [8] (fun _ w' => Hid (BM w w' A B st bl (St8.l (rounds kk (sch2 bl 48) s0 64))))
    case first =>
      go_wp2_with fail
      go_loopw [8] (fun i wr => ∃ t : Nat, t ≤ 64 ∧ i = .int .i64 t ∧ Hid (BM w wr A B st bl (St8.l (rounds kk (sch2 bl 48) s0 t)))) (fun i _ => 64 - (intOf i).toNat)
      case atStart => exact ⟨0, Nat.zero_le _, rfl, HM3⟩
      case round =>
        obtain ⟨t, ht, rfl, HR⟩ := hrel
        by_cases hlt : t < 64
        · have hltI : (t : Int) < 64 := by omega
          have HST := Lib.hid (show rounds kk (sch2 bl 48) s0 (t + 1) = (rounds kk (sch2 bl 48) s0 t).step (kk.getD t 0) ((sch2 bl 48).getD t 0) from rfl)
          have hW := HRW.out t
          generalize rounds kk (sch2 bl 48) s0 t = s at *
          obtain ⟨a, b, c, d, e, f, g, h⟩ := s
          have HRS := Lib.hid (fun k x => r_step hW k x)
          have ck : wr.cell? ⟨3, t, none⟩ = some (.int .u64 (kk.getD t 0)) := by
            rw [cell_of_row _ _ _ _ _ _ (HG.out wr HR.out.k), u64s_getD _ _ (by rw [HK.out]; omega)]
          have cx : wr.cell? ⟨B, t, none⟩ = some (.int .u64 ((sch2 bl 48).getD t 0)) := by
            rw [cell_of_row _ _ _ _ _ _ HR.out.h3, u64s_getD _ _ (by rw [sch2_len]; omega)]
          have hkr := w32_getD HK32.out t
          have hxr := w32_getD (w32_sch2 bl 48) t
          generalize kk.getD t 0 = kt at *
          generalize (sch2 bl 48).getD t 0 = xt at *
          have c0 : wr.cell? ⟨B + 1, 0, none⟩ = some (.int .u64 a) := by rw [cell_of_row _ _ _ _ _ _ HR.out.h4]; rfl
          have c1 : wr.cell? ⟨B + 1, 1, none⟩ = some (.int .u64 b) := by rw [cell_of_row _ _ _ _ _ _ HR.out.h4]; rfl
          have c2 : wr.cell? ⟨B + 1, 2, none⟩ = some (.int .u64 c) := by rw [cell_of_row _ _ _ _ _ _ HR.out.h4]; rfl
          have c3 : wr.cell? ⟨B + 1, 3, none⟩ = some (.int .u64 d) := by rw [cell_of_row _ _ _ _ _ _ HR.out.h4]; rfl
          have c4 : wr.cell? ⟨B + 1, 4, none⟩ = some (.int .u64 e) := by rw [cell_of_row _ _ _ _ _ _ HR.out.h4]; rfl
          have c5 : wr.cell? ⟨B + 1, 5, none⟩ = some (.int .u64 f) := by rw [cell_of_row _ _ _ _ _ _ HR.out.h4]; rfl
          have c6 : wr.cell? ⟨B + 1, 6, none⟩ = some (.int .u64 g) := by rw [cell_of_row _ _ _ _ _ _ HR.out.h4]; rfl
          have c7 : wr.cell? ⟨B + 1, 7, none⟩ = some (.int .u64 h) := by rw [cell_of_row _ _ _ _ _ _ HR.out.h4]; rfl
          have Ha2 : Hid (∀ W, Calls Tryd.prog 92 #[.int .i64 2, .int .u64 a] W fun en w' => en = .returned (.int .u64 (turns a 2)) ∧ W = w') := Lib.hid (fun W => turn_any 2 a (by decide) hW.a.1 hW.a.2 W)
          have Ha13 : Hid (∀ W, Calls Tryd.prog 92 #[.int .i64 13, .int .u64 a] W fun en w' => en = .returned (.int .u64 (turns a 13)) ∧ W = w') := Lib.hid (fun W => turn_any 13 a (by decide) hW.a.1 hW.a.2 W)
          have Ha22 : Hid (∀ W, Calls Tryd.prog 92 #[.int .i64 22, .int .u64 a] W fun en w' => en = .returned (.int .u64 (turns a 22)) ∧ W = w') := Lib.hid (fun W => turn_any 22 a (by decide) hW.a.1 hW.a.2 W)
          have He6 : Hid (∀ W, Calls Tryd.prog 92 #[.int .i64 6, .int .u64 e] W fun en w' => en = .returned (.int .u64 (turns e 6)) ∧ W = w') := Lib.hid (fun W => turn_any 6 e (by decide) hW.e.1 hW.e.2 W)
          have He11 : Hid (∀ W, Calls Tryd.prog 92 #[.int .i64 11, .int .u64 e] W fun en w' => en = .returned (.int .u64 (turns e 11)) ∧ W = w') := Lib.hid (fun W => turn_any 11 e (by decide) hW.e.1 hW.e.2 W)
          have He25 : Hid (∀ W, Calls Tryd.prog 92 #[.int .i64 25, .int .u64 e] W fun en w' => en = .returned (.int .u64 (turns e 25)) ∧ W = w') := Lib.hid (fun W => turn_any 25 e (by decide) hW.e.1 hW.e.2 W)
          unfold W32 at hkr hxr
          have ra : W32 a := hW.a
          have re : W32 e := hW.e
          have rh : W32 h := hW.h
          have rg : W32 g := hW.g
          unfold W32 at ra re rh rg
          have n32 : W32 (4294967295 - e) := ⟨by omega, by omega⟩
          have r1 : W32 (bits .xor .u64 (bits .xor .u64 (turns e 6) (turns e 11)) (turns e 25)) := by rw [sig3 hW.e 6 11 25 (by decide) (by decide) (by decide)]; exact w32_bits _ _ _
          have r2 : W32 (bits .xor .u64 (bits .and .u64 e f) (bits .and .u64 (4294967295 - e) g)) := by rw [a64 hW.e hW.f, a64 n32 hW.g, x64 (w32_bits _ _ _) (w32_bits _ _ _)]; exact w32_bits _ _ _
          have r3 : W32 (bits .xor .u64 (bits .xor .u64 (turns a 2) (turns a 13)) (turns a 22)) := by rw [sig3 hW.a 2 13 22 (by decide) (by decide) (by decide)]; exact w32_bits _ _ _
          have r4 : W32 (bits .xor .u64 (bits .xor .u64 (bits .and .u64 a b) (bits .and .u64 a c)) (bits .and .u64 b c)) := by rw [a64 hW.a hW.b, a64 hW.a hW.c, a64 hW.b hW.c, x64 (w32_bits _ _ _) (w32_bits _ _ _), x64 (w32_bits _ _ _) (w32_bits _ _ _)]; exact w32_bits _ _ _
          unfold W32 at r1 r2 r3 r4
          have v0 : IntKind.u64.wrap (4294967295 - e) = 4294967295 - e := by rw [IntKind.wrap_u64]; omega
          have v1 : IntKind.u64.wrap (h + bits .xor .u64 (bits .xor .u64 (turns e 6) (turns e 11)) (turns e 25)) = h + bits .xor .u64 (bits .xor .u64 (turns e 6) (turns e 11)) (turns e 25) := by rw [IntKind.wrap_u64]; omega
          have v2 : IntKind.u64.wrap (h + bits .xor .u64 (bits .xor .u64 (turns e 6) (turns e 11)) (turns e 25) + bits .xor .u64 (bits .and .u64 e f) (bits .and .u64 (4294967295 - e) g)) = h + bits .xor .u64 (bits .xor .u64 (turns e 6) (turns e 11)) (turns e 25) + bits .xor .u64 (bits .and .u64 e f) (bits .and .u64 (4294967295 - e) g) := by rw [IntKind.wrap_u64]; omega
          have v3 : IntKind.u64.wrap (h + bits .xor .u64 (bits .xor .u64 (turns e 6) (turns e 11)) (turns e 25) + bits .xor .u64 (bits .and .u64 e f) (bits .and .u64 (4294967295 - e) g) + kt) = h + bits .xor .u64 (bits .xor .u64 (turns e 6) (turns e 11)) (turns e 25) + bits .xor .u64 (bits .and .u64 e f) (bits .and .u64 (4294967295 - e) g) + kt := by rw [IntKind.wrap_u64]; omega
          have v4 : IntKind.u64.wrap (h + bits .xor .u64 (bits .xor .u64 (turns e 6) (turns e 11)) (turns e 25) + bits .xor .u64 (bits .and .u64 e f) (bits .and .u64 (4294967295 - e) g) + kt + xt) = h + bits .xor .u64 (bits .xor .u64 (turns e 6) (turns e 11)) (turns e 25) + bits .xor .u64 (bits .and .u64 e f) (bits .and .u64 (4294967295 - e) g) + kt + xt := by rw [IntKind.wrap_u64]; omega
          have v5 : IntKind.u64.wrap (bits .xor .u64 (bits .xor .u64 (turns a 2) (turns a 13)) (turns a 22) + bits .xor .u64 (bits .xor .u64 (bits .and .u64 a b) (bits .and .u64 a c)) (bits .and .u64 b c)) = bits .xor .u64 (bits .xor .u64 (turns a 2) (turns a 13)) (turns a 22) + bits .xor .u64 (bits .xor .u64 (bits .and .u64 a b) (bits .and .u64 a c)) (bits .and .u64 b c) := by rw [IntKind.wrap_u64]; omega
          go_wp2_with fail
          go_quiet (fail)
          have HR2 := Lib.hid (HR.out.drewN nq)
          have ck' : (wr.drewN nq).cell? ⟨3, t, none⟩ = some (.int .u64 kt) := ck
          have cx' : (wr.drewN nq).cell? ⟨B, t, none⟩ = some (.int .u64 xt) := cx
          clear HR ck cx c0 c1 c2 c3 c4 c5 c6 c7
          generalize wr.drewN nq = wz at *
          have c0 : wz.cell? ⟨B + 1, 0, none⟩ = some (.int .u64 a) := by rw [cell_of_row _ _ _ _ _ _ HR2.out.h4]; rfl
          have c1 : wz.cell? ⟨B + 1, 1, none⟩ = some (.int .u64 b) := by rw [cell_of_row _ _ _ _ _ _ HR2.out.h4]; rfl
          have c2 : wz.cell? ⟨B + 1, 2, none⟩ = some (.int .u64 c) := by rw [cell_of_row _ _ _ _ _ _ HR2.out.h4]; rfl
          have c3 : wz.cell? ⟨B + 1, 3, none⟩ = some (.int .u64 d) := by rw [cell_of_row _ _ _ _ _ _ HR2.out.h4]; rfl
          have c4 : wz.cell? ⟨B + 1, 4, none⟩ = some (.int .u64 e) := by rw [cell_of_row _ _ _ _ _ _ HR2.out.h4]; rfl
          have c5 : wz.cell? ⟨B + 1, 5, none⟩ = some (.int .u64 f) := by rw [cell_of_row _ _ _ _ _ _ HR2.out.h4]; rfl
          have c6 : wz.cell? ⟨B + 1, 6, none⟩ = some (.int .u64 g) := by rw [cell_of_row _ _ _ _ _ _ HR2.out.h4]; rfl
          have c7 : wz.cell? ⟨B + 1, 7, none⟩ = some (.int .u64 h) := by rw [cell_of_row _ _ _ _ _ _ HR2.out.h4]; rfl
          go_wp2_with (first
            | (go_at_call 92; (with_reducible refine (Ha2.out _).mono ?_); rintro _ w' ⟨rfl, rfl⟩)
            | (go_at_call 92; (with_reducible refine (Ha13.out _).mono ?_); rintro _ w' ⟨rfl, rfl⟩)
            | (go_at_call 92; (with_reducible refine (Ha22.out _).mono ?_); rintro _ w' ⟨rfl, rfl⟩)
            | (go_at_call 92; (with_reducible refine (He6.out _).mono ?_); rintro _ w' ⟨rfl, rfl⟩)
            | (go_at_call 92; (with_reducible refine (He11.out _).mono ?_); rintro _ w' ⟨rfl, rfl⟩)
            | (go_at_call 92; (with_reducible refine (He25.out _).mono ?_); rintro _ w' ⟨rfl, rfl⟩))
          go_quiet (fail)
          have HR3 := Lib.hid (HR2.out.drewN nq)
          clear HR2 ck' cx' c0 c1 c2 c3 c4 c5 c6 c7
          generalize wz.drewN nq = wy at *
          go_wp2_with fail
          go_loopw [17] (fun i wv => ∃ j : Nat, j ≤ 7 ∧ i = .int .i64 ((7 - j : Nat) : Int) ∧ Hid (BM w wv A B st bl (down (St8.l ⟨a, b, c, d, e, f, g, h⟩) j))) (fun i _ => (intOf i).toNat)
          case atStart => exact ⟨0, Nat.zero_le _, rfl, HR3⟩
          case round =>
            clear HR3
            obtain ⟨j, hj, rfl, HR⟩ := hrel
            obtain ⟨n, hn⟩ : ∃ n, n = 7 - j := ⟨_, rfl⟩
            rw [← hn]
            by_cases hlj : j < 7
            · have g0 : (0 : Int) < (n : Int) := by omega
              have g1 : 0 < n := by omega
              have e1 : wr.cell? ⟨B + 1, n - 1, none⟩ = some (.int .u64 ((down (St8.l ⟨a, b, c, d, e, f, g, h⟩) j).getD (n - 1) 0)) := by
                rw [cell_of_row _ _ _ _ _ _ HR.out.h4, u64s_getD _ _ (by rw [down_len]; show n - 1 < 8; omega)]
              have e2 : wr.cell? ⟨B + 1, n, none⟩ = some (.int .u64 ((down (St8.l ⟨a, b, c, d, e, f, g, h⟩) j).getD n 0)) := by
                rw [cell_of_row _ _ _ _ _ _ HR.out.h4, u64s_getD _ _ (by rw [down_len]; show n < 8; omega)]
              have ef : wr.frozen? ⟨B + 1, n, none⟩ = false := frozen_of_row wr _ n _ _ HR.out.h4
              have HDN : Hid (down (St8.l ⟨a, b, c, d, e, f, g, h⟩) (j + 1) = (down (St8.l ⟨a, b, c, d, e, f, g, h⟩) j).set n ((down (St8.l ⟨a, b, c, d, e, f, g, h⟩) j).getD (n - 1) 0)) := Lib.hid (by rw [hn]; rfl)
              have m1 : IntKind.i64.wrap ((n : Int) - 1) = (n : Int) - 1 := IntWalk.i64_in _ (by omega)
              have m2 : ((n : Int) - 1).toNat = n - 1 := by omega
              have m3 : (0 : Int) ≤ (n : Int) - 1 := by omega
              have m4 : (n : Int) - 1 < 8 := by omega
              have m5 : (n : Int) < 8 := by omega
              have m6 : (1 : Int) ≤ (n : Int) := by omega
              have HN := Lib.hid hn
              clear hn
              generalize (down (St8.l ⟨a, b, c, d, e, f, g, h⟩) j).getD (n - 1) 0 = y1 at *
              generalize (down (St8.l ⟨a, b, c, d, e, f, g, h⟩) j).getD n 0 = y2 at *
              go_wp2_with fail
              go_roundw
              case rel => exact ⟨j + 1, by omega, by have := HN.out; simp; omega, Lib.hid (by rw [HDN.out]; exact HR.out.setV n y1)⟩
              case measure => simp [intOf]; omega
            · have g0 : ¬ (0 : Int) < (n : Int) := by omega
              have g1 : ¬ 0 < n := by omega
              have g2 : n = 0 := by omega
              obtain rfl : j = 7 := by omega
              have e4 : wr.cell? ⟨B + 1, 4, none⟩ = some (.int .u64 d) := by rw [cell_of_row _ _ _ _ _ _ HR.out.h4]; rfl
              have e0 : wr.cell? ⟨B + 1, 0, none⟩ = some (.int .u64 a) := by rw [cell_of_row _ _ _ _ _ _ HR.out.h4]; rfl
              have f4 : wr.frozen? ⟨B + 1, 4, none⟩ = false := frozen_of_row wr _ 4 _ _ HR.out.h4
              have f0 : wr.frozen? ⟨B + 1, 0, none⟩ = false := frozen_of_row wr _ 0 _ _ HR.out.h4
              have rd : W32 d := hW.d
              unfold W32 at rd
              have v6 : IntKind.u64.wrap (d + (h + bits .xor .u64 (bits .xor .u64 (turns e 6) (turns e 11)) (turns e 25) + bits .xor .u64 (bits .and .u64 e f) (bits .and .u64 (4294967295 - e) g) + kt + xt)) = d + (h + bits .xor .u64 (bits .xor .u64 (turns e 6) (turns e 11)) (turns e 25) + bits .xor .u64 (bits .and .u64 e f) (bits .and .u64 (4294967295 - e) g) + kt + xt) := by rw [IntKind.wrap_u64]; omega
              have v7 : IntKind.u64.wrap (h + bits .xor .u64 (bits .xor .u64 (turns e 6) (turns e 11)) (turns e 25) + bits .xor .u64 (bits .and .u64 e f) (bits .and .u64 (4294967295 - e) g) + kt + xt + (bits .xor .u64 (bits .xor .u64 (turns a 2) (turns a 13)) (turns a 22) + bits .xor .u64 (bits .xor .u64 (bits .and .u64 a b) (bits .and .u64 a c)) (bits .and .u64 b c))) = h + bits .xor .u64 (bits .xor .u64 (turns e 6) (turns e 11)) (turns e 25) + bits .xor .u64 (bits .and .u64 e f) (bits .and .u64 (4294967295 - e) g) + kt + xt + (bits .xor .u64 (bits .xor .u64 (turns a 2) (turns a 13)) (turns a 22) + bits .xor .u64 (bits .xor .u64 (bits .and .u64 a b) (bits .and .u64 a c)) (bits .and .u64 b c)) := by rw [IntKind.wrap_u64]; omega
              clear hn g2
              go_wp2_with fail
              go_roundw
              case rel => exact ⟨t + 1, by omega, by go_num, Lib.hid (by rw [HST.out, HRS.out]; exact (HR.out.setV 4 _).setV 0 _)⟩
              case measure => simp [intOf]; omega
        · have ht64 : t = 64 := by omega
          subst ht64
          go_wp2_with fail
          go_meet
          exact HR
    case rest =>
      have HM4 := Lib.hid hcut.out
      clear hcut HM3
      have hW := HRW.out 64
      have hvW : ∀ x ∈ St8.l (rounds kk (sch2 bl 48) s0 64), W32 x := by
        generalize rounds kk (sch2 bl 48) s0 64 = s at *
        intro x hx
        simp only [St8.l, List.mem_cons, List.not_mem_nil, or_false] at hx
        rcases hx with rfl | rfl | rfl | rfl | rfl | rfl | rfl | rfl
        · exact hW.a
        · exact hW.b
        · exact hW.c
        · exact hW.d
        · exact hW.e
        · exact hW.f
        · exact hW.g
        · exact hW.h
      have hvl : (St8.l (rounds kk (sch2 bl 48) s0 64)).length = 8 := rfl
      clear hW HRW
      generalize St8.l (rounds kk (sch2 bl 48) s0 64) = v at *
      have HVW := Lib.hid hvW
      have HVL := Lib.hid hvl
      clear hvW hvl
      have HFW : Hid (∀ j, ∀ x ∈ fin8 st v j, W32 x) := Lib.hid (fun j => by
        induction j with
        | zero => exact HS32.out
        | succ j ih => exact w32_set ih (w32_mod _) j)
      go_wp2_with fail
      go_loopw [18] (fun i wr => ∃ j : Nat, j ≤ 8 ∧ i = .int .i64 j ∧ Hid (BM w wr A B (fin8 st v j) bl v)) (fun i _ => 8 - (intOf i).toNat)
      case atStart => exact ⟨0, Nat.zero_le _, rfl, HM4⟩
      case round =>
        obtain ⟨j, hj, rfl, HR⟩ := hrel
        by_cases hlt : j < 8
        · have hltI : (j : Int) < 8 := by omega
          have c0 : wr.cell? ⟨A, j, none⟩ = some (.int .u32 ((fin8 st v j).getD j 0)) := by
            rw [cell_of_row _ _ _ _ _ _ HR.out.h0, u32s_getD _ _ (by rw [fin8_len, HS.out]; omega)]
          have c1 : wr.cell? ⟨B + 1, j, none⟩ = some (.int .u64 (v.getD j 0)) := by
            rw [cell_of_row _ _ _ _ _ _ HR.out.h4, u64s_getD _ _ (by rw [HVL.out]; omega)]
          have cf : wr.frozen? ⟨A, j, none⟩ = false := frozen_of_row wr _ j _ _ HR.out.h0
          have HST : Hid (fin8 st v (j + 1) = (fin8 st v j).set j (((fin8 st v j).getD j 0 + v.getD j 0) % 4294967296)) := Lib.hid rfl
          have rx := w32_getD (HFW.out j) j
          have ry := w32_getD HVW.out j
          generalize (fin8 st v j).getD j 0 = x at *
          generalize v.getD j 0 = y at *
          unfold W32 at rx ry
          have v1 : IntKind.u64.wrap x = x := by rw [IntKind.wrap_u64]; omega
          have v2 : IntKind.u64.wrap (x + y) = x + y := by rw [IntKind.wrap_u64]; omega
          go_wp2_with fail
          go_still_tail 12, (by kernel_rfl)
          go_wp2_with fail
          go_roundw
          case rel => exact ⟨j + 1, by omega, by go_num, Lib.hid (by rw [HST.out]; exact (HR.out.setS j _).drew)⟩
          case measure => simp [intOf]; omega
        · have hj8 : j = 8 := by omega
          subst hj8
          have hsz : (u32s (fin8 st v 8)).size = 8 := by rw [u32s_size, fin8_len, HS.out]
          have HZ := Lib.hid hsz
          clear hsz HFW
          go_wp2_with (first | (refine wpList_load_row (by rfl) 126 (.tmp 2) (by rfl) A (by rfl) 126 (u32s (fin8 st v 8)) (0, 0) _ HR.out.h0 Tryd.underlying126 rfl (by rw [HZ.out]; kernel_rfl) ?_) | (refine wpList_store_row (by rfl) 126 (.tmp 4) (.tmp 134) (by rfl) (A + 1 + 1) (u32s (fin8 st v 8)) (by rfl) (by rfl) 126 _ HR.out.h2 (by rw [HZ.out]; kernel_rfl) (by rw [HZ.out, u32s_size, List.length_replicate]) (one_u32s _) ?_))
          obtain ⟨r1, r2⟩ := HR.out.res (u32s (fin8 st v 8))
          rw [HC.out]
          exact bodyPost_ret (results_cell_row rfl _ _ (A + 1 + 1) 126 _ (0, 0) _ rfl r2 Tryd.underlying126 rfl (by rw [HZ.out]; kernel_rfl)) rfl ⟨rfl, r1⟩
end Go.Proofs.YtkceaepbjdfccaaDoor
/-
letheref02.At, letheref02.Begin.
-/
namespace Go.Proofs.YtkceaepbjdfccaaDoor
open Go.RowKit
/-- n cells, the first k of them laid by f -/
def layN (n : Nat) (f : Nat → Int) : Nat → List Int
  | 0 => List.replicate n 0
  | k + 1 => (layN n f k).set k (f k)
theorem layN_len (n : Nat) (f : Nat → Int) : ∀ k, (layN n f k).length = n
  | 0 => by simp [layN]
  | k + 1 => by rw [layN, List.length_set]; exact layN_len n f k
theorem layN_get (n : Nat) (f : Nat → Int) : ∀ k, k ≤ n → ∀ j, j < n → (layN n f k)[j]? = some (if j < k then f j else 0)
  | 0, _, j, hj => by simp [layN, hj]
  | k + 1, hk, j, hj => by
    rw [layN, List.getElem?_set]
    by_cases h : k = j
    · subst h
      rw [if_pos rfl, if_pos (by rw [layN_len]; omega), if_pos (by omega)]
    · rw [if_neg h, layN_get n f k (by omega) j hj]
      by_cases h2 : j < k
      · rw [if_pos h2, if_pos (by omega)]
      · rw [if_neg h2, if_neg (by omega)]
theorem layN_all (n : Nat) (f : Nat → Int) : layN n f n = (List.range n).map f := by
  apply List.ext_getElem?
  intro j
  by_cases hj : j < n
  · rw [layN_get n f n (Nat.le_refl _) j hj, if_pos hj, List.getElem?_map, List.getElem?_range hj]; rfl
  · rw [List.getElem?_eq_none (by rw [layN_len]; omega), List.getElem?_eq_none (by simp; omega)]
/-- what lies where, while an array of bytes is laid -/
structure LM (w W : World) (A : Nat) (ws : List Int) : Prop where
  k : Kp [] w W
  hA : w.heap.size ≤ A
  h1 : W.heap[A]? = some (.cells (u8s (List.replicate 64 0)) 127 (0, 0))
  h2 : W.heap[A + 1]? = some (.cells (u8s ws) 127 (0, 0))
theorem LM.set {w W : World} {A : Nat} {ws : List Int} (h : LM w W A ws) (j : Nat) (x : Int) : LM w (W.setCell ⟨A + 1, j, none⟩ (.int .u8 x)) A (ws.set j x) := by
  have k : Kp [A + 1] W (W.setCell ⟨A + 1, j, none⟩ (.int .u8 x)) := (Kp.refl _ W).setCell (.inl (by simp)) _
  have hA := h.hA
  refine ⟨h.k.trans k (fun m hm => by rw [List.mem_singleton] at hm; subst hm; exact .inr (by omega)), hA, k.heap h.h1 (by simp), ?_⟩
  rw [← u8s_set]
  exact heap_setCell_same W _ j _ _ (.int .u8 x) h.h2
theorem LM.res {w W : World} {A : Nat} {ws : List Int} (h : LM w W A ws) (cs : Array Value) : Kp [] w (W.setRow A cs) ∧ (W.setRow A cs).heap[A]? = some (.cells cs 127 (0, 0)) := by
  have hA := h.hA
  have k : Kp [A] W (W.setRow A cs) := ⟨rfl, rfl, rfl, by simp, fun j _ hn => setRow_other _ _ _ _ (by simpa using hn)⟩
  exact ⟨h.k.trans k (fun m hm => by rw [List.mem_singleton] at hm; subst hm; exact .inr (by omega)), setRow_heap W _ _ _ _ _ h.h1⟩
/-- block i of m -/
def blk (m : List Int) (i : Nat) : List Int := (m.drop (64 * i)).take 64
theorem blk_lay (m : List Int) (i : Nat) (h : 64 * i + 64 ≤ m.length) : layN 64 (fun k => m.getD (64 * i + k) 0) 64 = blk m i := by
  rw [layN_all]
  apply List.ext_getElem?
  intro j
  unfold blk
  by_cases hj : j < 64
  · rw [List.getElem?_map, List.getElem?_range hj, List.getElem?_take, if_pos hj, List.getElem?_drop, List.getElem?_eq_getElem (by omega)]
    simp only [Option.map_some, List.getD_eq_getElem?_getD]
    rw [List.getElem?_eq_getElem (by omega)]; rfl
  · rw [List.getElem?_eq_none (by simp; omega), List.getElem?_eq_none (by simp; omega)]
set_option maxRecDepth 100000 in
set_option maxHeartbeats 1000000 in
theorem at_any (m : List Int) (v : Value) (i : Nat) (w : World) (hv : Rd w v (iv m)) (hi : 64 * i + 64 ≤ m.length) (hm : m.length ≤ 1125899906842624) :
    Calls Tryd.prog 86 #[v, .int .i64 i] w fun e w' => e = .returned (.agg (u8s (blk m i))) ∧ Kp [] w w' := by
  obtain ⟨ao, cap, rfl⟩ := hv.form
  rw [show (iv m).length = m.length from iv_length m] at hv ⊢
  have HV := Lib.hid hv
  have HBL := Lib.hid (blk_lay m i hi)
  generalize blk m i = res at *
  clear hv
  go_enter Tryd.func86, Tryd.ntmps86
  go_upto_block 0 with fail
  have HM : Hid (LM w ((w.alloc (.cells (u8s (List.replicate 64 0)) 127)).alloc (.cells (u8s (List.replicate 64 0)) 127)) w.heap.size (layN 64 (fun k => m.getD (64 * i + k) 0) 0)) := Lib.hid
    ⟨((Kp.refl [] w).alloc _).alloc _, Nat.le_refl _, heap_alloc2_old w _ _, heap_alloc2_new w _ _⟩
  generalize hA : w.heap.size = A at *
  clear hA
  go_wp2_with fail
  go_loopw [6] (fun i' wr => ∃ k : Nat, k ≤ 64 ∧ i' = .int .i64 k ∧ Hid (LM w wr A (layN 64 (fun k => m.getD (64 * i + k) 0) k))) (fun i' _ => 64 - (intOf i').toNat)
  case atStart => exact ⟨0, Nat.zero_le _, rfl, HM⟩
  case round =>
    obtain ⟨k, hk, rfl, HR⟩ := hrel
    by_cases hlt : k < 64
    · have hltI : (k : Int) < 64 := by omega
      have hq : 64 * i + k < m.length := by omega
      obtain ⟨gb, goff, hgao, hx, hgc⟩ := (HV.out.kp0 HR.out.k).at hq
      subst hgao
      have hge : (iv m)[64 * i + k]'(by rw [iv_length]; omega) = .int .u8 (m.getD (64 * i + k) 0) := by
        simp only [iv, List.getElem_map]
        rw [List.getD_eq_getElem?_getD, List.getElem?_eq_getElem (by omega)]; rfl
      rw [hge] at hgc
      have HST : Hid (layN 64 (fun k => m.getD (64 * i + k) 0) (k + 1) = (layN 64 (fun k => m.getD (64 * i + k) 0) k).set k (m.getD (64 * i + k) 0)) := Lib.hid rfl
      have c0 : wr.cell? ⟨A + 1, k, none⟩ = some (.int .u8 ((layN 64 (fun k => m.getD (64 * i + k) 0) k).getD k 0)) := by
        rw [cell_of_row _ _ _ _ _ _ HR.out.h2, u8s_getD _ _ (by rw [layN_len]; omega)]
      have cf : wr.frozen? ⟨A + 1, k, none⟩ = false := frozen_of_row wr _ k _ _ HR.out.h2
      clear hge
      generalize (layN 64 (fun k => m.getD (64 * i + k) 0) k).getD k 0 = z at *
      generalize hxx : m.getD (64 * i + k) 0 = x at *
      clear hxx
      have i0 : (0 : Int) ≤ 64 * (i : Int) + (k : Int) := by omega
      have i1 : 64 * (i : Int) + (k : Int) < (m.length : Int) := by omega
      have w0 : IntKind.i64.wrap (64 * (i : Int)) = 64 * (i : Int) := IntWalk.i64_in _ (by omega)
      have w1 : IntKind.i64.wrap (64 * (i : Int) + (k : Int)) = 64 * (i : Int) + (k : Int) := IntWalk.i64_in _ (by omega)
      have n1 : (64 * (i : Int) + (k : Int)).toNat = 64 * i + k := by omega
      go_wp2_with fail
      go_roundw
      case rel => exact ⟨k + 1, by omega, by go_num, Lib.hid (by rw [HST.out]; exact HR.out.set k x)⟩
      case measure => simp [intOf]; omega
    · have hk64 : k = 64 := by omega
      subst hk64
      have HR2 : Hid (LM w wr A res) := Lib.hid (by rw [← HBL.out]; exact HR.out)
      have hsz : (u8s res).size = 64 := by rw [u8s_size, ← HBL.out, layN_len]
      have HZ := Lib.hid hsz
      clear hsz HR
      go_wp2_with (first | (refine wpList_load_row (by rfl) 127 (.tmp 5) (by rfl) (A + 1) (by rfl) 127 (u8s res) (0, 0) _ HR2.out.h2 Tryd.underlying127 rfl (by rw [HZ.out]; kernel_rfl) ?_) | (refine wpList_store_row (by rfl) 127 (.tmp 4) (.tmp 20) (by rfl) A (u8s res) (by rfl) (by rfl) 127 _ HR2.out.h1 (by rw [HZ.out]; kernel_rfl) (by rw [HZ.out, u8s_size, List.length_replicate]) (one_u8s _) ?_))
      obtain ⟨r1, r2⟩ := HR2.out.res (u8s res)
      exact bodyPost_ret (results_cell_row rfl _ _ A 127 _ (0, 0) _ rfl r2 Tryd.underlying127 rfl (by rw [HZ.out]; kernel_rfl)) rfl ⟨rfl, r1⟩
/-- what lies where, while eight words are laid -/
structure EM (w W : World) (A : Nat) (ws : List Int) : Prop where
  k : Kp [] w W
  hA : w.heap.size ≤ A
  h1 : W.heap[A]? = some (.cells (u32s (List.replicate 8 0)) 126 (0, 0))
  h2 : W.heap[A + 1]? = some (.cells (u32s ws) 126 (0, 0))
theorem EM.set {w W : World} {A : Nat} {ws : List Int} (h : EM w W A ws) (j : Nat) (x : Int) : EM w (W.setCell ⟨A + 1, j, none⟩ (.int .u32 x)) A (ws.set j x) := by
  have k : Kp [A + 1] W (W.setCell ⟨A + 1, j, none⟩ (.int .u32 x)) := (Kp.refl _ W).setCell (.inl (by simp)) _
  have hA := h.hA
  refine ⟨h.k.trans k (fun m hm => by rw [List.mem_singleton] at hm; subst hm; exact .inr (by omega)), hA, k.heap h.h1 (by simp), ?_⟩
  rw [← u32s_set]
  exact heap_setCell_same W _ j _ _ (.int .u32 x) h.h2
theorem EM.res {w W : World} {A : Nat} {ws : List Int} (h : EM w W A ws) (cs : Array Value) : Kp [] w (W.setRow A cs) ∧ (W.setRow A cs).heap[A]? = some (.cells cs 126 (0, 0)) := by
  have hA := h.hA
  have k : Kp [A] W (W.setRow A cs) := ⟨rfl, rfl, rfl, by simp, fun j _ hn => setRow_other _ _ _ _ (by simpa using hn)⟩
  exact ⟨h.k.trans k (fun m hm => by rw [List.mem_singleton] at hm; subst hm; exact .inr (by omega)), setRow_heap W _ _ _ _ _ h.h1⟩
set_option maxRecDepth 100000 in
set_option maxHeartbeats 1000000 in
theorem begin_any (bg : List Int) (hb : bg.length = 8) (hb32 : ∀ x ∈ bg, W32 x) (w : World) {T : TypeId} (fr : Nat × Nat) (hg : w.heap[2]? = some (.cells (u64s bg) T fr)) :
    Calls Tryd.prog 84 #[] w fun e w' => e = .returned (.agg (u32s bg)) ∧ Kp [] w w' := by
  have HG : Hid (∀ w', Kp [] w w' → w'.heap[2]? = some (.cells (u64s bg) T fr)) := Lib.hid (fun w' k => k.heap hg (by simp))
  have HBL := Lib.hid (show layN 8 (fun k => bg.getD k 0) 8 = bg from by
    rw [layN_all]
    apply List.ext_getElem?
    intro j
    by_cases hj : j < 8
    · rw [List.getElem?_map, List.getElem?_range hj, List.getElem?_eq_getElem (by omega)]
      simp only [Option.map_some, List.getD_eq_getElem?_getD]
      rw [List.getElem?_eq_getElem (by omega)]; rfl
    · rw [List.getElem?_eq_none (by simp; omega), List.getElem?_eq_none (by omega)])
  have HL := Lib.hid hb
  have H32 := Lib.hid hb32
  clear hb hb32 hg
  go_enter Tryd.func84, Tryd.ntmps84
  go_upto_block 0 with fail
  have HM : Hid (EM w ((w.alloc (.cells (u32s (List.replicate 8 0)) 126)).alloc (.cells (u32s (List.replicate 8 0)) 126)) w.heap.size (layN 8 (fun k => bg.getD k 0) 0)) := Lib.hid
    ⟨((Kp.refl [] w).alloc _).alloc _, Nat.le_refl _, heap_alloc2_old w _ _, heap_alloc2_new w _ _⟩
  generalize hA : w.heap.size = A at *
  clear hA
  go_wp2_with fail
  go_loopw [2] (fun i' wr => ∃ k : Nat, k ≤ 8 ∧ i' = .int .i64 k ∧ Hid (EM w wr A (layN 8 (fun k => bg.getD k 0) k))) (fun i' _ => 8 - (intOf i').toNat)
  case atStart => exact ⟨0, Nat.zero_le _, rfl, HM⟩
  case round =>
    obtain ⟨k, hk, rfl, HR⟩ := hrel
    by_cases hlt : k < 8
    · have hltI : (k : Int) < 8 := by omega
      have hgc : wr.cell? ⟨2, k, none⟩ = some (.int .u64 (bg.getD k 0)) := by
        rw [cell_of_row _ _ _ _ _ _ (HG.out wr HR.out.k), u64s_getD _ _ (by rw [HL.out]; omega)]
      have HST : Hid (layN 8 (fun k => bg.getD k 0) (k + 1) = (layN 8 (fun k => bg.getD k 0) k).set k (bg.getD k 0)) := Lib.hid rfl
      have c0 : wr.cell? ⟨A + 1, k, none⟩ = some (.int .u32 ((layN 8 (fun k => bg.getD k 0) k).getD k 0)) := by
        rw [cell_of_row _ _ _ _ _ _ HR.out.h2, u32s_getD _ _ (by rw [layN_len]; omega)]
      have cf : wr.frozen? ⟨A + 1, k, none⟩ = false := frozen_of_row wr _ k _ _ HR.out.h2
      have hx := w32_getD H32.out k
      generalize (layN 8 (fun k => bg.getD k 0) k).getD k 0 = z at *
      generalize hxx : bg.getD k 0 = x at *
      clear hxx
      unfold W32 at hx
      have v1 : IntKind.u32.wrap x = x := by rw [IntKind.wrap_u32]; omega
      have v2 : x % 4294967296 = x := by omega
      go_wp2_with fail
      go_roundw
      case rel => exact ⟨k + 1, by omega, by go_num, Lib.hid (by rw [HST.out]; exact HR.out.set k x)⟩
      case measure => simp [intOf]; omega
    · have hk8 : k = 8 := by omega
      subst hk8
      have HR2 : Hid (EM w wr A bg) := Lib.hid (by have h := HR.out; rw [HBL.out] at h; exact h)
      have hsz : (u32s bg).size = 8 := by rw [u32s_size, HL.out]
      have HZ := Lib.hid hsz
      clear hsz HR
      go_wp2_with (first | (refine wpList_load_row (by rfl) 126 (.tmp 1) (by rfl) (A + 1) (by rfl) 126 (u32s bg) (0, 0) _ HR2.out.h2 Tryd.underlying126 rfl (by rw [HZ.out]; kernel_rfl) ?_) | (refine wpList_store_row (by rfl) 126 (.tmp 0) (.tmp 13) (by rfl) A (u32s bg) (by rfl) (by rfl) 126 _ HR2.out.h1 (by rw [HZ.out]; kernel_rfl) (by rw [HZ.out, u32s_size, List.length_replicate]) (one_u32s _) ?_))
      obtain ⟨r1, r2⟩ := HR2.out.res (u32s bg)
      exact bodyPost_ret (results_cell_row rfl _ _ A 126 _ (0, 0) _ rfl r2 Tryd.underlying126 rfl (by rw [HZ.out]; kernel_rfl)) rfl ⟨rfl, r1⟩
end Go.Proofs.YtkceaepbjdfccaaDoor
/-
Plain laws: a hash is whole blocks, one behind the other; a word as four bytes, the lowest first.
-/
namespace Go.Proofs.YtkceaepbjdfccaaDoor
open Go.RowKit
/-- the state behind so many blocks -/
def cmpN (kk bg m : List Int) : Nat → List Int
  | 0 => bg
  | i + 1 => comp kk (cmpN kk bg m i) (blk m i)
theorem cmpN_len (kk bg m : List Int) : ∀ i, (cmpN kk bg m i).length = bg.length
  | 0 => rfl
  | i + 1 => by rw [cmpN, comp_len]; exact cmpN_len kk bg m i
theorem w32_fin8 {st : List Int} (h : ∀ x ∈ st, W32 x) (v : List Int) : ∀ j, ∀ x ∈ fin8 st v j, W32 x
  | 0 => h
  | j + 1 => w32_set (w32_fin8 h v j) (w32_mod _) j
theorem w32_comp {kk st bl : List Int} (h : ∀ x ∈ st, W32 x) : ∀ x ∈ comp kk st bl, W32 x := w32_fin8 h _ 8
theorem w32_cmpN {kk bg m : List Int} (h : ∀ x ∈ bg, W32 x) : ∀ i, ∀ x ∈ cmpN kk bg m i, W32 x
  | 0 => h
  | i + 1 => w32_comp (w32_cmpN h i)
theorem blk_len {m : List Int} {i : Nat} (h : 64 * i + 64 ≤ m.length) : (blk m i).length = 64 := by unfold blk; simp; omega
theorem blk_mem {m : List Int} {i : Nat} (h : ∀ x ∈ m, B8 x) : ∀ x ∈ blk m i, B8 x := fun x hx => h x (List.mem_of_mem_drop (List.mem_of_mem_take hx))
theorem puts_blocks (kk bg m : List Int) : ∀ i, 64 * i ≤ m.length →
    ((hs0 bg).puts kk (m.take (64 * i))).st = cmpN kk bg m i ∧ ((hs0 bg).puts kk (m.take (64 * i))).n = 64 * i ∧ ((hs0 bg).puts kk (m.take (64 * i))).bl.length = 64
  | 0, _ => by
    rw [show 64 * 0 = 0 from rfl, List.take_zero, Hs.puts_nil]
    exact ⟨rfl, rfl, by simp [hs0]⟩
  | i + 1, h => by
    obtain ⟨h1, h2, h3⟩ := puts_blocks kk bg m i (by omega)
    have hb : (blk m i).length = 64 := blk_len (by omega)
    have e : m.take (64 * (i + 1)) = m.take (64 * i) ++ blk m i := by
      unfold blk
      rw [show 64 * (i + 1) = 64 * i + 64 by omega, List.take_add]
    rw [e, Hs.puts_append]
    generalize (hs0 bg).puts kk (m.take (64 * i)) = H at *
    have hn : H.n % 64 = 0 := by omega
    rw [Hs.puts_chunk kk (blk m i) H h3 (by omega) (by omega)]
    have ho : ovl H.bl (H.n % 64) (blk m i) = blk m i := by
      rw [hn]; unfold ovl
      rw [List.take_zero, List.nil_append, List.drop_eq_nil_of_le (by omega), List.append_nil]
    rw [ho]
    dsimp only
    rw [if_pos (by omega), h1]
    exact ⟨rfl, by omega, hb⟩
theorem pad_len (n : Nat) : (n + (pad n).length) % 64 = 0 := by
  unfold pad zeros
  simp only [List.length_cons, List.length_append, List.length_replicate, be8_len]
  omega
theorem pad_small (n : Nat) : (pad n).length ≤ 73 := by
  unfold pad zeros
  simp only [List.length_cons, List.length_append, List.length_replicate, be8_len]
  omega
/-- a hash is the state behind the blocks of the padded message -/
theorem sha_blocks (kk bg m : List Int) : sha kk bg m = outw (cmpN kk bg (m ++ pad m.length) ((m ++ pad m.length).length / 64)) 8 := by
  unfold sha Hs.fin
  rw [Hs.puts_n, show (hs0 bg).n + m.length = m.length from Nat.zero_add _, ← Hs.puts_append]
  have h := puts_blocks kk bg (m ++ pad m.length) ((m ++ pad m.length).length / 64) (by omega)
  have hl : (m ++ pad m.length).length % 64 = 0 := by rw [List.length_append]; exact pad_len _
  rw [List.take_of_length_le (by omega)] at h
  rw [h.1]
theorem b8_pad (n : Nat) : ∀ x ∈ pad n, B8 x := fun x hx => by
  simp only [pad, List.mem_cons, List.mem_append, List.mem_replicate, be8, List.mem_map] at hx
  rcases hx with rfl | ⟨_, rfl⟩ | ⟨i, _, rfl⟩
  · exact ⟨by decide, by decide⟩
  · exact ⟨by decide, by decide⟩
  · exact ⟨Int.emod_nonneg _ (by decide), Int.emod_lt_of_pos _ (by decide)⟩
/-- four bytes of v laid at 4 i, the last first -/
def last4 (l : List Int) (i : Nat) (v : Int) : Nat → List Int
  | 0 => l
  | j + 1 => (last4 l i v j).set (4 * i + (3 - j)) (v / 256 ^ j % 256)
theorem last4_len (l : List Int) (i : Nat) (v : Int) : ∀ j, (last4 l i v j).length = l.length
  | 0 => rfl
  | j + 1 => by rw [last4, List.length_set]; exact last4_len l i v j
theorem last4_outw (st : List Int) (i : Nat) : last4 (outw st i) i (st.getD i 0) 4 = outw st (i + 1) := by
  generalize hl : outw st i = l
  show _ = (((((outw st i).set (4 * i) (st.getD i 0 / 16777216 % 256)).set (4 * i + 1) (st.getD i 0 / 65536 % 256)).set (4 * i + 2) (st.getD i 0 / 256 % 256)).set (4 * i + 3) (st.getD i 0 % 256))
  rw [hl]
  generalize st.getD i 0 = v
  show ((((l.set (4 * i + 3) (v / 256 ^ 0 % 256)).set (4 * i + 2) (v / 256 ^ 1 % 256)).set (4 * i + 1) (v / 256 ^ 2 % 256)).set (4 * i + 0) (v / 256 ^ 3 % 256)) = _
  rw [show v / 256 ^ 0 = v by simp, show (256 : Int) ^ 1 = 256 by decide, show (256 : Int) ^ 2 = 65536 by decide, show (256 : Int) ^ 3 = 16777216 by decide, Nat.add_zero]
  apply List.ext_getElem?
  intro j
  simp only [List.getElem?_set, List.length_set]
  by_cases h0 : 4 * i = j
  · subst h0
    simp
  · by_cases h1 : 4 * i + 1 = j
    · subst h1; simp
    · by_cases h2 : 4 * i + 2 = j
      · subst h2; simp
      · by_cases h3 : 4 * i + 3 = j
        · subst h3; simp
        · simp [h0, h1, h2, h3]
theorem div_more (v : Int) (j : Nat) : v / 256 ^ j / 256 = v / 256 ^ (j + 1) := by
  rw [Int.ediv_ediv_of_nonneg (Int.pow_nonneg (by decide)), Int.pow_succ]
/-- eight bytes of v, the last first -/
def last8 (v : Int) : Nat → List Int
  | 0 => List.replicate 8 0
  | j + 1 => (last8 v j).set (7 - j) (v / 256 ^ j % 256)
theorem last8_len (v : Int) : ∀ j, (last8 v j).length = 8
  | 0 => by simp [last8]
  | j + 1 => by rw [last8, List.length_set]; exact last8_len v j
theorem last8_be8 (v : Int) : last8 v 8 = be8 v := by
  show ((((((((List.replicate 8 0).set 7 (v / 256 ^ 0 % 256)).set 6 (v / 256 ^ 1 % 256)).set 5 (v / 256 ^ 2 % 256)).set 4 (v / 256 ^ 3 % 256)).set 3 (v / 256 ^ 4 % 256)).set 2 (v / 256 ^ 5 % 256)).set 1 (v / 256 ^ 6 % 256)).set 0 (v / 256 ^ 7 % 256) = [v / 2 ^ 56 % 256, v / 2 ^ 48 % 256, v / 2 ^ 40 % 256, v / 2 ^ 32 % 256, v / 2 ^ 24 % 256, v / 2 ^ 16 % 256, v / 2 ^ 8 % 256, v / 2 ^ 0 % 256]
  rw [show (256 : Int) ^ 0 = 2 ^ 0 by decide, show (256 : Int) ^ 1 = 2 ^ 8 by decide, show (256 : Int) ^ 2 = 2 ^ 16 by decide, show (256 : Int) ^ 3 = 2 ^ 24 by decide, show (256 : Int) ^ 4 = 2 ^ 32 by decide, show (256 : Int) ^ 5 = 2 ^ 40 by decide, show (256 : Int) ^ 6 = 2 ^ 48 by decide, show (256 : Int) ^ 7 = 2 ^ 56 by decide]
  rfl
end Go.Proofs.YtkceaepbjdfccaaDoor
/-
letheref02.bytesOf.
-/
namespace Go.Proofs.YtkceaepbjdfccaaDoor
open Go.RowKit
/-- what lies where, while a state is written as bytes -/
structure OM (w W : World) (A : Nat) (st ws : List Int) : Prop where
  k : Kp [] w W
  hA : w.heap.size ≤ A
  h0 : W.heap[A]? = some (.cells (u32s st) 126 (0, 0))
  h1 : W.heap[A + 1]? = some (.cells (u8s (List.replicate 32 0)) 22 (0, 0))
  h2 : W.heap[A + 2]? = some (.cells (u8s ws) 22 (0, 0))
theorem OM.set {w W : World} {A : Nat} {st ws : List Int} (h : OM w W A st ws) (j : Nat) (x : Int) : OM w (W.setCell ⟨A + 2, j, none⟩ (.int .u8 x)) A st (ws.set j x) := by
  have k : Kp [A + 2] W (W.setCell ⟨A + 2, j, none⟩ (.int .u8 x)) := (Kp.refl _ W).setCell (.inl (by simp)) _
  have hA := h.hA
  refine ⟨h.k.trans k (fun m hm => by rw [List.mem_singleton] at hm; subst hm; exact .inr (by omega)), hA, k.heap h.h0 (by simp), k.heap h.h1 (by simp), ?_⟩
  rw [← u8s_set]
  exact heap_setCell_same W _ j _ _ (.int .u8 x) h.h2
theorem OM.res {w W : World} {A : Nat} {st ws : List Int} (h : OM w W A st ws) (cs : Array Value) : Kp [] w (W.setRow (A + 1) cs) ∧ (W.setRow (A + 1) cs).heap[A + 1]? = some (.cells cs 22 (0, 0)) := by
  have hA := h.hA
  have k : Kp [A + 1] W (W.setRow (A + 1) cs) := ⟨rfl, rfl, rfl, by simp, fun j _ hn => setRow_other _ _ _ _ (by simpa using hn)⟩
  exact ⟨h.k.trans k (fun m hm => by rw [List.mem_singleton] at hm; subst hm; exact .inr (by omega)), setRow_heap W _ _ _ _ _ h.h1⟩
set_option maxRecDepth 100000 in
set_option maxHeartbeats 1000000 in
theorem bytesOf_any (st : List Int) (hst : st.length = 8) (hs32 : ∀ x ∈ st, W32 x) (w : World) :
    Calls Tryd.prog 87 #[.agg (u32s st)] w fun e w' => e = .returned (.agg (u8s (outw st 8))) ∧ Kp [] w w' := by
  have HS := Lib.hid hst
  have HS32 := Lib.hid hs32
  clear hst hs32
  have h0 := three_rows w (.cells (u32s st) 126) (.cells (u8s (List.replicate 32 0)) 22) (.cells (u8s (List.replicate 32 0)) 22)
  have k0 : Kp [] w (((w.alloc (.cells (u32s st) 126)).alloc (.cells (u8s (List.replicate 32 0)) 22)).alloc (.cells (u8s (List.replicate 32 0)) 22)) := (((Kp.refl [] w).alloc _).alloc _).alloc _
  have HM : Hid (OM w (((w.alloc (.cells (u32s st) 126)).alloc (.cells (u8s (List.replicate 32 0)) 22)).alloc (.cells (u8s (List.replicate 32 0)) 22)) w.heap.size st (outw st 0)) := Lib.hid
    ⟨k0, Nat.le_refl _, h0.1, h0.2.1, h0.2.2⟩
  clear h0 k0
  go_enter Tryd.func87, Tryd.ntmps87
  go_upto_block 0 with fail
  generalize hA : w.heap.size = A at *
  clear hA
  have HM : Hid (OM w _ A st (outw st 0)) := HM
  go_wp2_with fail
  go_loopw [4] (fun i' wr => ∃ k : Nat, k ≤ 8 ∧ i' = .int .i64 k ∧ Hid (OM w wr A st (outw st k))) (fun i' _ => 8 - (intOf i').toNat)
  case atStart => exact ⟨0, Nat.zero_le _, rfl, HM⟩
  case round =>
    clear HM
    obtain ⟨k, hk, rfl, HR⟩ := hrel
    by_cases hlt : k < 8
    · have hltI : (k : Int) < 8 := by omega
      have c0 : wr.cell? ⟨A, k, none⟩ = some (.int .u32 (st.getD k 0)) := by
        rw [cell_of_row _ _ _ _ _ _ HR.out.h0, u32s_getD _ _ (by rw [HS.out]; omega)]
      have HX := Lib.hid (w32_getD HS32.out k)
      have HL4 := Lib.hid (last4_outw st k)
      have HLL := Lib.hid (outw_len st k)
      have HR : Hid (OM w wr A st (last4 (outw st k) k (st.getD k 0) 0)) := HR
      generalize st.getD k 0 = v at *
      generalize outw st k = l at *
      go_wp2_with fail
      go_loopw [5, 6] (fun x' i' wv => ∃ j : Nat, j ≤ 4 ∧ i' = .int .i64 (3 - (j : Int)) ∧ x' = .int .u32 (v / 256 ^ j) ∧ Hid (OM w wv A st (last4 l k v j))) (fun _ i' _ => (intOf i' + 1).toNat)
      case atStart => exact ⟨0, Nat.zero_le _, rfl, by simp, HR⟩
      case round =>
        clear HR c0
        obtain ⟨j, hj, rfl, rfl, HR⟩ := hrel
        by_cases hlj : j < 4
        · have g0 : (0 : Int) ≤ 3 - (j : Int) := by omega
          have HST : Hid (last4 l k v (j + 1) = (last4 l k v j).set (4 * k + (3 - j)) (v / 256 ^ j % 256)) := Lib.hid rfl
          have HDM := Lib.hid (div_more v j)
          have c0 : wr.cell? ⟨A + 2, 4 * k + (3 - j), none⟩ = some (.int .u8 ((last4 l k v j).getD (4 * k + (3 - j)) 0)) := by
            rw [cell_of_row _ _ _ _ _ _ HR.out.h2, u8s_getD _ _ (by rw [last4_len, HLL.out]; omega)]
          have cf : wr.frozen? ⟨A + 2, 4 * k + (3 - j), none⟩ = false := frozen_of_row wr _ _ _ _ HR.out.h2
          have w0 : IntKind.i64.wrap (4 * (k : Int)) = 4 * (k : Int) := IntWalk.i64_in _ (by omega)
          have w1 : IntKind.i64.wrap (4 * (k : Int) + (3 - (j : Int))) = 4 * (k : Int) + (3 - (j : Int)) := IntWalk.i64_in _ (by omega)
          have w2 : IntKind.i64.wrap (3 - (j : Int) - 1) = 3 - (j : Int) - 1 := IntWalk.i64_in _ (by omega)
          have n1 : (4 * (k : Int) + (3 - (j : Int))).toNat = 4 * k + (3 - j) := by omega
          have n2 : (0 : Int) ≤ 4 * (k : Int) + (3 - (j : Int)) := by omega
          have n3 : 4 * (k : Int) + (3 - (j : Int)) < 32 := by omega
          have hv0 : W32 (v / 256 ^ j) := by
            have h := HX.out
            have hp : (0 : Int) < 256 ^ j := Int.pow_pos (by decide)
            exact ⟨Int.ediv_nonneg h.1 (Int.le_of_lt hp), by have := Int.ediv_le_self (256 ^ j) h.1; have := h.2; omega⟩
          generalize (last4 l k v j).getD (4 * k + (3 - j)) 0 = z at *
          generalize v / 256 ^ j = y at *
          unfold W32 at hv0
          have v1 : IntKind.u8.wrap (y % 256) = y % 256 := by rw [IntKind.wrap_u8]; omega
          have v2 : IntKind.u32.wrap (y / 256) = y / 256 := by rw [IntKind.wrap_u32]; omega
          go_wp2_with fail
          go_roundw
          case rel => exact ⟨j + 1, by omega, by go_num, by rw [← HDM.out], Lib.hid (by rw [HST.out]; exact HR.out.set _ _)⟩
          case measure => simp [intOf]; omega
        · have hj4 : j = 4 := by omega
          subst hj4
          go_wp2_with fail
          go_roundw
          case rel => exact ⟨k + 1, by omega, by go_num, Lib.hid (by rw [← HL4.out]; exact HR.out)⟩
          case measure => simp [intOf]; omega
    · have hk8 : k = 8 := by omega
      subst hk8
      have hsz : (u8s (outw st 8)).size = 32 := by rw [u8s_size, outw_len]
      have HZ := Lib.hid hsz
      clear hsz
      go_wp2_with (first | (refine wpList_load_row (by rfl) 22 (.tmp 3) (by rfl) (A + 2) (by rfl) 22 (u8s (outw st 8)) (0, 0) _ HR.out.h2 Tryd.underlying22 rfl (by rw [HZ.out]; kernel_rfl) ?_) | (refine wpList_store_row (by rfl) 22 (.tmp 2) (.tmp 28) (by rfl) (A + 1) (u8s (outw st 8)) (by rfl) (by rfl) 22 _ HR.out.h1 (by rw [HZ.out]; kernel_rfl) (by rw [HZ.out, u8s_size, List.length_replicate]) (one_u8s _) ?_))
      obtain ⟨r1, r2⟩ := HR.out.res (u8s (outw st 8))
      exact bodyPost_ret (results_cell_row rfl _ _ (A + 1) 22 _ (0, 0) _ rfl r2 Tryd.underlying22 rfl (by rw [HZ.out]; kernel_rfl)) rfl ⟨rfl, r1⟩
end Go.Proofs.YtkceaepbjdfccaaDoor
/-
letheref02.padded.
-/
namespace Go.Proofs.YtkceaepbjdfccaaDoor
open Go.RowKit
/-- a slice of bytes of its own, while it grows -/
structure PdM (w wr : World) (l : List Int) (v : Value) : Prop where
  k : Kp [] w wr
  o : Own wr w.heap.size 5 v (iv l)
theorem PdM.kp {w wr w' : World} {l : List Int} {v : Value} (h : PdM w wr l v) (k : Kp [] wr w') : PdM w w' l v := ⟨h.k.trans0 k, h.o.kp0 k⟩
theorem PdM.grow {w wr w5 : World} {l c : List Int} {v v2 : Value} (h : PdM w wr l v) (ho5 : Own w5 w.heap.size 5 v2 (iv l ++ iv c)) (hg5 : wr.grownBy w5 v.ownBlock) : PdM w w5 (l ++ c) v2 := by
  have k1 : Kp v.ownBlock.toList wr w5 := Kp.of_grown hg5 (fun k hk => .inl (by rw [hk]; simp))
  refine ⟨h.k.trans k1 (fun m hm => ?_), by rw [iv_append]; exact ho5⟩
  rw [Option.mem_toList] at hm
  exact .inr (h.o.lt hm).1
theorem PdM.nil (w : World) : PdM w w [] (.slice none 0 0) := ⟨Kp.refl _ _, Own.nil _ _ _⟩
/-- the same, and an array of eight bytes in B -/
structure PQ (w wr : World) (l : List Int) (v : Value) (B : Nat) (ws : List Int) : Prop where
  p : PdM w wr l v
  hB : w.heap.size ≤ B
  hne : ∀ b, v.ownBlock = some b → b ≠ B
  b : wr.heap[B]? = some (.cells (u8s ws) 87 (0, 0))
theorem PQ.set {w wr : World} {l : List Int} {v : Value} {B : Nat} {ws : List Int} (h : PQ w wr l v B ws) (j : Nat) (x : Int) : PQ w (wr.setCell ⟨B, j, none⟩ (.int .u8 x)) l v B (ws.set j x) := by
  have k : Kp [B] wr (wr.setCell ⟨B, j, none⟩ (.int .u8 x)) := (Kp.refl _ wr).setCell (.inl (by simp)) _
  have hB := h.hB
  refine ⟨⟨h.p.k.trans k (fun m hm => by rw [List.mem_singleton] at hm; subst hm; exact .inr hB), h.p.o.kp k (fun b hb => by rw [List.mem_singleton]; exact h.hne b hb)⟩, hB, h.hne, ?_⟩
  rw [← u8s_set]
  exact heap_setCell_same wr B j _ _ (.int .u8 x) h.b
theorem PdM.box {w wr : World} {l : List Int} {v : Value} (h : PdM w wr l v) : PQ w (wr.alloc (.cells (u8s (List.replicate 8 0)) 87)) l v wr.heap.size (List.replicate 8 0) := by
  refine ⟨h.kp ((Kp.refl _ _).alloc _), h.k.size, fun b hb => ?_, heap_alloc_new wr _⟩
  have := (h.o.lt hb).2
  omega
set_option maxRecDepth 100000 in
set_option maxHeartbeats 1000000 in
theorem padded_any (m : List Int) (v : Value) (w : World) (hv : Rd w v (iv m)) (hm : m.length ≤ 1000000) :
    Calls Tryd.prog 83 #[v] w fun e w' => ∃ v', e = .returned v' ∧ PdM w w' (m ++ pad m.length) v' := by
  obtain ⟨ao, cap, rfl⟩ := hv.form
  rw [show (iv m).length = m.length from iv_length m] at hv ⊢
  have HV := Lib.hid hv
  have HP : Hid (m ++ pad m.length = m ++ 128 :: List.replicate (zeros m.length) 0 ++ be8 ((m.length : Int) * 8)) := Lib.hid (by
    rw [Int.mul_comm]; unfold pad; simp)
  generalize m ++ pad m.length = res at *
  have HZ : Hid (zeros m.length ≤ 64) := Lib.hid (by unfold zeros; omega)
  have e64 : IntKind.u64.wrap (m.length : Int) = (m.length : Int) := by rw [IntKind.wrap_u64]; omega
  have e65 : IntKind.u64.wrap ((m.length : Int) * 8) = (m.length : Int) * 8 := by rw [IntKind.wrap_u64]; omega
  clear hv
  go_enter Tryd.func83, Tryd.ntmps83
  go_wp2_with (first
    | (at_builtin; (refine wpl_append el_byt rfl (.const (.slice none 0 0)) (.tmp 7) (by rfl) (by rfl) (by rfl) (Own.nil w w.heap.size 5) HV.out (iv_one _) (by simp [iv_length]; omega) (by simp [iv_length]; omega) (Nat.le_refl _) ?_; intro v1 w1 ho1 hg1; have H1 : Hid (PdM w w1 ([] ++ m) v1) := Lib.hid ((PdM.nil w).grow ho1 hg1); clear ho1 hg1))
    | (at_builtin; go_must (refine wpl_append el_byt rfl (.tmp 9) (.tmp 10) (by rfl) (by rfl) (by rfl) (H1.out.o.kp0 ((Kp.refl [] w1).alloc _)) (rd_lit1 w1 5 _) (by simp [Value.oneCell']) (by simp [iv_length]; omega) (by simp [iv_length]; omega) (by have := H1.out.k.size; simp; omega) ?_; intro v2 w2 ho2 hg2; have H2 : Hid (PdM w w2 ([] ++ m ++ [128]) v2) := Lib.hid ((H1.out.kp ((Kp.refl [] w1).alloc _)).grow ho2 hg2); clear ho2 hg2)))
  have H3 : Hid (PdM w w2 (m ++ 128 :: List.replicate 0 0) v2) := Lib.hid (by have h := H2.out; simpa using h)
  clear H1 H2
  go_loopg [3] (zeros m.length) (fun q v wr => Hid (∃ j, j + q = zeros m.length ∧ PdM w wr (m ++ 128 :: List.replicate j 0) v))
  case atStart => exact Lib.hid ⟨0, by simp, H3.out⟩
  case round =>
    clear H3
    obtain ⟨j, hj, hS⟩ := hrel.out
    obtain ⟨ao3, cap3, hf⟩ := hS.o.rd.form
    have hN : (iv (m ++ 128 :: List.replicate j 0)).length = m.length + 1 + j := by simp [iv_length]; omega
    rw [hN] at hf
    obtain ⟨N, hNN⟩ : ∃ N, N = m.length + 1 + j := ⟨_, rfl⟩
    rw [← hNN] at hf hN
    have HS := Lib.hid hS
    have HN := Lib.hid hN
    have HNN := Lib.hid hNN
    subst hf
    clear hN hS hrel
    by_cases hq : 0 < gk
    · have hb : ((N : Int) % 64 != 56) = true := by
        have : (N : Int) % 64 ≠ 56 := by unfold zeros at hj; omega
        simpa using this
      have HJ := Lib.hid hj
      have hz := HZ.out
      have hn2 : N ≤ 1000100 := by omega
      have HR : Hid (m ++ 128 :: List.replicate j 0 ++ [0] = m ++ 128 :: List.replicate (j + 1) 0) := Lib.hid (by rw [List.replicate_succ']; simp)
      generalize m ++ 128 :: List.replicate j 0 = l at *
      clear hj hNN hz
      go_wp2_with (first
        | (at_builtin; go_must (refine wpl_append el_byt rfl (.tmp 16) (.tmp 17) (by rfl) (by rfl) (by rfl) (HS.out.o.kp0 ((Kp.refl [] wr).alloc _)) (rd_lit1 wr 5 _) (by simp [Value.oneCell']) (by rw [HN.out]; simp; omega) (by rw [HN.out]; simp; omega) (by have := HS.out.k.size; simp; omega) ?_; intro v5 w5 ho5 hg5; have H5 : Hid (PdM w w5 (l ++ [0]) v5) := Lib.hid ((HS.out.kp ((Kp.refl [] wr).alloc _)).grow ho5 hg5); clear ho5 hg5))
        | fail)
      go_roundg (gk - 1)
      case measure => omega
      case rel => exact Lib.hid ⟨j + 1, by have := HJ.out; omega, by rw [← HR.out]; exact H5.out⟩
    · have hb : ((N : Int) % 64 != 56) = false := by
        have : (N : Int) % 64 = 56 := by unfold zeros at hj; omega
        simpa using this
      have hjz : j = zeros m.length := by omega
      subst hjz
      have hz := HZ.out
      have hn2 : N ≤ 1000100 := by omega
      generalize m ++ 128 :: List.replicate (zeros m.length) 0 = l at *
      generalize zeros m.length = zz at *
      have HB0 := Lib.hid (HS.out.box)
      go_wp2_with fail
      obtain ⟨L, hL⟩ : ∃ L : Int, L = (m.length : Int) * 8 := ⟨_, rfl⟩
      rw [← hL] at HP
      have HL0 : Hid (0 ≤ L ∧ L ≤ 8000000) := Lib.hid (by omega)
      try rw [← hL]
      generalize wr.heap.size = B at *
      have HB0 : Hid (PQ w _ l (.slice ao3 N cap3) B (last8 L 0)) := HB0
      clear hL HS hb
      go_loopw [4, 6] (fun x i wv => ∃ t : Nat, t ≤ 8 ∧ i = .int .i64 (7 - (t : Int)) ∧ x = .int .u64 (L / 256 ^ t) ∧ Hid (PQ w wv l (.slice ao3 N cap3) B (last8 L t))) (fun _ i _ => (intOf i + 1).toNat)
      case atStart => exact ⟨0, Nat.zero_le _, rfl, by simp, HB0⟩
      case round =>
        clear HB0
        obtain ⟨t, ht, rfl, rfl, HR⟩ := hrel
        by_cases hlt : t < 8
        · have g0 : (0 : Int) ≤ 7 - (t : Int) := by omega
          have HST : Hid (last8 L (t + 1) = (last8 L t).set (7 - t) (L / 256 ^ t % 256)) := Lib.hid rfl
          have HDM := Lib.hid (div_more L t)
          have c0 : wr.cell? ⟨B, 7 - t, none⟩ = some (.int .u8 ((last8 L t).getD (7 - t) 0)) := by
            rw [cell_of_row _ _ _ _ _ _ HR.out.b, u8s_getD _ _ (by rw [last8_len]; omega)]
          have cf : wr.frozen? ⟨B, 7 - t, none⟩ = false := frozen_of_row wr _ _ _ _ HR.out.b
          have w2 : IntKind.i64.wrap (7 - (t : Int) - 1) = 7 - (t : Int) - 1 := IntWalk.i64_in _ (by omega)
          have n1 : (7 - (t : Int)).toNat = 7 - t := by omega
          have n3 : 7 - (t : Int) < 8 := by omega
          have hv0 : 0 ≤ L / 256 ^ t ∧ L / 256 ^ t ≤ 8000000 := by
            have h := HL0.out
            have hp : (0 : Int) < 256 ^ t := Int.pow_pos (by decide)
            exact ⟨Int.ediv_nonneg h.1 (Int.le_of_lt hp), by have := Int.ediv_le_self (256 ^ t) h.1; omega⟩
          generalize (last8 L t).getD (7 - t) 0 = z at *
          generalize L / 256 ^ t = y at *
          have v1 : IntKind.u8.wrap (y % 256) = y % 256 := by rw [IntKind.wrap_u8]; omega
          have v2 : IntKind.u64.wrap (y / 256) = y / 256 := by rw [IntKind.wrap_u64]; omega
          go_wp2_with fail
          go_roundw
          case rel => exact ⟨t + 1, by omega, by go_num, by rw [← HDM.out], Lib.hid (by rw [HST.out]; exact HR.out.set _ _)⟩
          case measure => simp [intOf]; omega
        · have ht8 : t = 8 := by omega
          subst ht8
          rw [last8_be8] at HR
          have hbl := be8_len L
          generalize be8 L = bb at *
          obtain ⟨x0, x1, x2, x3, x4, x5, x6, x7, rfl⟩ := eight bb hbl
          have c0 : wr.cell? ⟨B, 0, none⟩ = some (.int .u8 x0) := by rw [cell_of_row _ _ _ _ _ _ HR.out.b]; rfl
          have c1 : wr.cell? ⟨B, 1, none⟩ = some (.int .u8 x1) := by rw [cell_of_row _ _ _ _ _ _ HR.out.b]; rfl
          have c2 : wr.cell? ⟨B, 2, none⟩ = some (.int .u8 x2) := by rw [cell_of_row _ _ _ _ _ _ HR.out.b]; rfl
          have c3 : wr.cell? ⟨B, 3, none⟩ = some (.int .u8 x3) := by rw [cell_of_row _ _ _ _ _ _ HR.out.b]; rfl
          have c4 : wr.cell? ⟨B, 4, none⟩ = some (.int .u8 x4) := by rw [cell_of_row _ _ _ _ _ _ HR.out.b]; rfl
          have c5 : wr.cell? ⟨B, 5, none⟩ = some (.int .u8 x5) := by rw [cell_of_row _ _ _ _ _ _ HR.out.b]; rfl
          have c6 : wr.cell? ⟨B, 6, none⟩ = some (.int .u8 x6) := by rw [cell_of_row _ _ _ _ _ _ HR.out.b]; rfl
          have c7 : wr.cell? ⟨B, 7, none⟩ = some (.int .u8 x7) := by rw [cell_of_row _ _ _ _ _ _ HR.out.b]; rfl
          go_wp2_with (first
            | (at_builtin; go_must (refine wpl_append el_byt rfl (.tmp 34) (.tmp 51) (by rfl) (by rfl) (by rfl) (HR.out.p.o.kp0 ((Kp.refl [] wr).alloc _)) ((Own.lit wr 5 #[.int .u8 x0, .int .u8 x1, .int .u8 x2, .int .u8 x3, .int .u8 x4, .int .u8 x5, .int .u8 x6, .int .u8 x7] (Nat.le_refl _) (by simp)).rd) (by simp [Value.oneCell']) (by rw [HN.out]; simp; omega) (by rw [HN.out]; simp; omega) (by have := HR.out.p.k.size; simp; omega) ?_; intro v5 w5 ho5 hg5; have H5 : Hid (PdM w w5 (l ++ [x0, x1, x2, x3, x4, x5, x6, x7]) v5) := Lib.hid ((HR.out.p.kp ((Kp.refl [] wr).alloc _)).grow ho5 hg5); clear ho5 hg5))
            | fail)
          go_ret
          exact ⟨_, rfl, by rw [HP.out]; exact H5.out⟩
end Go.Proofs.YtkceaepbjdfccaaDoor
/-
letheref02.Sum.
-/
namespace Go.Proofs.YtkceaepbjdfccaaDoor
open Go.RowKit
/-- the two tables of the document's hash -/
structure Tabr (kk bg : List Int) (w : World) : Prop where
  hk : kk.length = 64
  hb : bg.length = 8
  k32 : ∀ x ∈ kk, W32 x
  b32 : ∀ x ∈ bg, W32 x
  ck : ∃ T fr, w.heap[3]? = some (.cells (u64s kk) T fr)
  cb : ∃ T fr, w.heap[2]? = some (.cells (u64s bg) T fr)
theorem Tabr.kp {kk bg : List Int} {w w' : World} (h : Tabr kk bg w) (k : Kp [] w w') : Tabr kk bg w' := by
  obtain ⟨h1, h2, h3, h4, ⟨t1, f1, c1⟩, ⟨t2, f2, c2⟩⟩ := h
  exact ⟨h1, h2, h3, h4, ⟨t1, f1, k.heap c1 (by simp)⟩, ⟨t2, f2, k.heap c2 (by simp)⟩⟩
/-- what lies where, while blocks are taken in -/
structure SB (w wr : World) (A D : Nat) (st l : List Int) (v : Value) : Prop where
  k : Kp [] w wr
  hA : w.heap.size ≤ A
  hD : A < D
  box : wr.heap[A]? = some (.cells (u8s (List.replicate 32 0)) 22 (0, 0))
  row : wr.heap[D]? = some (.cells (u32s st) 126 (0, 0))
  rd : Rd wr v (iv l)
  hne : ∀ b, v.ownBlock = some b → b ≠ D
theorem SB.kp {w wr w' : World} {A D : Nat} {st l : List Int} {v : Value} (h : SB w wr A D st l v) (k : Kp [] wr w') : SB w w' A D st l v :=
  ⟨h.k.trans0 k, h.hA, h.hD, k.heap h.box (by simp), k.heap h.row (by simp), h.rd.kp0 k, h.hne⟩
theorem SB.drew {w wr : World} {A D : Nat} {st l : List Int} {v : Value} (h : SB w wr A D st l v) : SB w wr.drew A D st l v :=
  ⟨h.k.drew, h.hA, h.hD, h.box, h.row, h.rd.drew, h.hne⟩
theorem SB.range {w wr : World} {A D : Nat} {st l : List Int} {v : Value} (h : SB w wr A D st l v) : wr.rangeAt D 0 (st.map (Value.int .u32)) := by
  intro j x hx
  rw [Nat.zero_add, cell_of_row wr D j _ _ _ h.row]
  simpa [u32s] using hx
theorem SB.there {w wr : World} {A D : Nat} {st l : List Int} {v : Value} (h : SB w wr A D st l v) (n : Nat) (hn : n ≤ st.length) : wr.there D 0 n := fun j hj => by
  refine ⟨?_, by rw [Nat.zero_add]; exact frozen_of_row wr D j _ _ h.row⟩
  rw [Nat.zero_add, cell_of_row wr D j _ _ _ h.row, u32s_getD _ _ (by omega)]
  rfl
theorem SB.set {w wr : World} {A D : Nat} {st l : List Int} {v : Value} (h : SB w wr A D st l v) (st' : List Int) (hl : st'.length = st.length) : SB w (wr.setCells D 0 (u32s st').toList) A D st' l v := by
  have k := kp_setCells D (u32s st').toList 0 wr
  have hA := h.hA
  have hD := h.hD
  refine ⟨h.k.trans k (fun m hm => by rw [List.mem_singleton] at hm; subst hm; exact .inr (by omega)), hA, hD, k.heap h.box (by simp; omega), ?_, h.rd.kp k (fun b hb => by rw [List.mem_singleton]; exact h.hne b hb), h.hne⟩
  rw [setCells_row D _ _ 0 _ wr h.row (by simp [u32s, hl])]
  congr 3
  simp [u32s, hl]
theorem SB.start {w w1 w2 : World} {l st : List Int} {v1 : Value} {Z : Array Value} (k1 : Kp [] (w.alloc (.cells (u8s (List.replicate 32 0)) 22)) w1) (o1 : Own w1 (w.alloc (.cells (u8s (List.replicate 32 0)) 22)).heap.size 5 v1 (iv l)) (k2 : Kp [] w1 w2) :
    SB w ((w2.alloc (.cells Z 126)).setRow w2.heap.size (u32s st)) w.heap.size w2.heap.size st l v1 := by
  have k0 : Kp [] w (w.alloc (.cells (u8s (List.replicate 32 0)) 22)) := (Kp.refl [] w).alloc _
  have hb : (w.alloc (.cells (u8s (List.replicate 32 0)) 22)).heap[w.heap.size]? = some (.cells (u8s (List.replicate 32 0)) 22) := heap_alloc_new w _
  have kA := (k0.trans0 k1).trans0 k2
  have hz : w.heap.size < w2.heap.size := by have h1 := k1.size; have h2 := k2.size; simp at h1; omega
  have kB : Kp [] w2 (w2.alloc (.cells Z 126)) := (Kp.refl [] w2).alloc _
  have kC : Kp [w2.heap.size] (w2.alloc (.cells Z 126)) ((w2.alloc (.cells Z 126)).setRow w2.heap.size (u32s st)) := kp_setRow _ _ _
  have kD : Kp [] w2 ((w2.alloc (.cells Z 126)).setRow w2.heap.size (u32s st)) := kB.trans kC (fun m hm => by rw [List.mem_singleton] at hm; subst hm; exact .inr (Nat.le_refl _))
  have kE := k2.trans0 kD
  refine ⟨kA.trans0 kD, Nat.le_refl _, hz, kE.heap (k1.heap hb (by simp)) (by simp), setRow_heap _ _ _ _ _ _ (heap_alloc_new w2 _), o1.rd.kp0 kE, fun b hb => ?_⟩
  have h1 := (o1.lt hb).2
  have h2 := k2.size
  omega
set_option maxRecDepth 100000 in
set_option maxHeartbeats 1000000 in
theorem rsum_any (kk bg m : List Int) (v : Value) (w : World) (hT : Tabr kk bg w) (hv : Rd w v (iv m)) (hm : m.length ≤ 1000000) (h8 : ∀ x ∈ m, B8 x) :
    Calls Tryd.prog 62 #[v] w fun e w' => e = .returned (.agg (u8s (sha kk bg m))) ∧ Kp [] w w' := by
  have HT := Lib.hid hT
  have HPA := Lib.hid (padded_any m v (w.alloc (.cells (u8s (List.replicate 32 0)) 22)) (hv.kp0 ((Kp.refl [] w).alloc _)) hm)
  have HR : Hid (sha kk bg m = outw (cmpN kk bg (m ++ pad m.length) ((m ++ pad m.length).length / 64)) 8) := Lib.hid (sha_blocks kk bg m)
  have HL8 : Hid (∀ x ∈ m ++ pad m.length, B8 x) := Lib.hid (fun x hx => by
    rcases List.mem_append.1 hx with h | h
    · exact h8 x h
    · exact b8_pad _ x h)
  have hll : (m ++ pad m.length).length ≤ 1000100 := by rw [List.length_append]; have := pad_small m.length; omega
  have h64 : (m ++ pad m.length).length % 64 = 0 := by rw [List.length_append]; exact pad_len _
  generalize m ++ pad m.length = l at *
  generalize sha kk bg m = res at *
  obtain ⟨q, hq⟩ : ∃ q, q = l.length / 64 := ⟨_, rfl⟩
  rw [← hq] at HR
  have HLQ : Hid (l.length = 64 * q ∧ q ≤ 20000) := Lib.hid (by omega)
  have HBE : Hid (∀ W, Tabr kk bg W → Calls Tryd.prog 84 #[] W fun e w' => e = .returned (.agg (u32s bg)) ∧ Kp [] W w') := Lib.hid (fun W hW => by
    obtain ⟨_, fr, hb⟩ := hW.cb
    exact begin_any bg hW.hb hW.b32 W fr hb)
  have HZ8 : Hid ((u32s bg).size = 8) := Lib.hid (by rw [u32s_size, hT.hb])
  clear hT hv hm h8 hll h64 hq
  go_enter Tryd.func62, Tryd.ntmps62
  go_wp2_with (first
    | (go_at_call 83; go_must (refine HPA.out.mono ?_; rintro e w1 ⟨v1, rfl, hp1⟩; have HP1 := Lib.hid hp1; clear hp1))
    | (go_at_call 84; go_must (refine (HBE.out _ (HT.out.kp (((Kp.refl [] w).alloc _).trans0 HP1.out.k))).mono ?_; rintro e w2 ⟨rfl, hk2⟩; have HK2 := Lib.hid hk2; clear hk2))
    | (refine wpList_store_row (by rfl) 126 (.tmp 4) (.tmp 8) (by rfl) w2.heap.size (u32s bg) (by rfl) (by rfl) 126 (u32s (List.replicate 8 0)) (heap_alloc_new w2 _) (by rw [HZ8.out]; kernel_rfl) (by rw [HZ8.out]; rfl) (one_u32s _) ?_))
  have HS0 : Hid (SB w _ w.heap.size w2.heap.size (cmpN kk bg l 0) l v1) := Lib.hid (SB.start (st := bg) (Z := u32s (List.replicate 8 0)) HP1.out.k HP1.out.o HK2.out)
  obtain ⟨ao1, cap1, hf1⟩ := HP1.out.o.rd.form
  rw [iv_length, HLQ.out.1] at hf1
  subst hf1
  clear HP1 HK2 HBE HZ8 HPA
  generalize w.heap.size = A at *
  generalize w2.heap.size = D at *
  have HS0 : Hid (SB w _ A D (cmpN kk bg l 0) l (.slice ao1 (64 * q) cap1)) := HS0
  have hq2 : q ≤ 20000 := HLQ.out.2
  have hdt : wrap64 (q : Int) = (q : Int) := IntWalk.wrap64_in _ (by omega)
  go_loopw [5] (fun i wr => ∃ k : Nat, k ≤ q ∧ i = .int .i64 k ∧ Hid (SB w wr A D (cmpN kk bg l k) l (.slice ao1 (64 * q) cap1))) (fun i _ => q - (intOf i).toNat)
  case atStart => exact ⟨0, Nat.zero_le _, rfl, HS0⟩
  case round =>
    clear HS0
    obtain ⟨k, hk, rfl, HS⟩ := hrel
    by_cases hlt : k < q
    · have hltI : (k : Int) < (q : Int) := by omega
      go_wp2_with fail
      refine wp_region_any (by kernel_rfl) ?_
      have HS1 := Lib.hid HS.out.drew
      change wpAny _ _ _ _ _ _ _ wr.drew
      clear HS
      generalize wr.drew = w3 at *
      have HSL : Hid ((cmpN kk bg l k).length = 8) := Lib.hid (by rw [cmpN_len]; exact HT.out.hb)
      have HAT : Hid (∀ W, Rd W (.slice ao1 (64 * q) cap1) (iv l) → Calls Tryd.prog 86 #[.slice ao1 (64 * q) cap1, .int .i64 k] W fun e w' => e = .returned (.agg (u8s (blk l k))) ∧ Kp [] W w') := Lib.hid (fun W hW => at_any l _ k W hW (by have := HLQ.out.1; omega) (by have := HLQ.out.1; omega))
      have HBL : Hid (∀ W, Kp [] w W → Calls Tryd.prog 85 #[.agg (u32s (cmpN kk bg l k)), .agg (u8s (blk l k))] W fun e w' => e = .returned (.agg (u32s (cmpN kk bg l (k + 1)))) ∧ Kp [] W w') := Lib.hid (fun W hW => by
        obtain ⟨_, fr, hc⟩ := (HT.out.kp hW).ck
        exact block_any (cmpN kk bg l k) (blk l k) kk HSL.out (w32_cmpN HT.out.b32 k) (blk_len (by have := HLQ.out.1; omega)) (blk_mem HL8.out) HT.out.hk HT.out.k32 W fr hc)
      have HSL2 : Hid ((cmpN kk bg l (k + 1)).length = 8) := Lib.hid (by rw [cmpN_len]; exact HT.out.hb)
      generalize hE2 : cmpN kk bg l (k + 1) = st2 at *
      have HE2 := Lib.hid hE2
      clear hE2
      generalize cmpN kk bg l k = st at *
      refine wpAny_take (i := 1) (v := .slice ao1 (64 * q) cap1) rfl (by kernel_rfl) (by kernel_rfl) (by kernel_rfl) (fun _ _ _ h => h) (Or.inl ⟨by rfl, by intro w; go_simp⟩) ?_
      refine wpAny_take (i := 2) (v := .int .i64 (k : Int)) rfl (by kernel_rfl) (by kernel_rfl) (by kernel_rfl) (fun _ _ _ h => h) (Or.inl ⟨by rfl, by intro w; go_simp⟩) ?_
      go_simp
      refine wpAny_ready (rs := [0, 3]) (by kernel_rfl) (by simp) ?_
      refine AllReady.cons (o := ⟨some 16, .load 126 (.tmp 4), 126, "ref.go:135", #[], none⟩) rfl (fun K hK => ?_) (AllReady.cons (o := ⟨some 19, .call { callee := .value (.func 86), args := #[.tmp 17, .tmp 18], argTypes := #[27, 3] }, 127, "ref.go:135", #[{ on := 1, ground := .data }, { on := 2, ground := .data }], none⟩) rfl (fun K hK => ?_) AllReady.nil)
      refine step_load_mid (by rfl) 126 (.tmp 4) (by rfl) D 0 (by rfl) _ _ HS1.out.range Tryd.underlying126 rfl (by rw [List.length_map, HSL.out]; kernel_rfl) ?_
      refine hK _ _ ?_
      clear hK K
      go_simp
      refine wpAny_ready (rs := [3]) (by kernel_rfl) (by simp) ?_
      refine AllReady.cons (o := ⟨some 19, .call { callee := .value (.func 86), args := #[.tmp 17, .tmp 18], argTypes := #[27, 3] }, 127, "ref.go:135", #[{ on := 1, ground := .data }, { on := 2, ground := .data }], none⟩) rfl (fun K hK => ?_) AllReady.nil
      go_simp
      refine (HAT.out _ HS1.out.rd).mono ?_
      rintro e w4 ⟨rfl, hk4⟩
      have HS2 := Lib.hid (HS1.out.kp hk4)
      clear hk4 HS1
      go_simp
      refine hK _ _ ?_
      clear hK K
      go_simp
      rotate_left
      go_simp
      refine (HAT.out _ HS1.out.rd).mono ?_
      rintro e w4 ⟨rfl, hk4⟩
      have HS2 := Lib.hid (HS1.out.kp hk4)
      clear hk4 HS1
      go_simp
      refine hK _ _ ?_
      clear hK K
      go_simp
      refine wpAny_ready (rs := [0]) (by kernel_rfl) (by simp) ?_
      refine AllReady.cons (o := ⟨some 16, .load 126 (.tmp 4), 126, "ref.go:135", #[], none⟩) rfl (fun K hK => ?_) AllReady.nil
      refine step_load_mid (by rfl) 126 (.tmp 4) (by rfl) D 0 (by rfl) _ _ HS2.out.range Tryd.underlying126 rfl (by rw [List.length_map, HSL.out]; kernel_rfl) ?_
      refine hK _ _ ?_
      clear hK K
      go_simp
      all_goals
        refine wpAny_ready (rs := [4]) (by kernel_rfl) (by simp) ?_
        refine AllReady.cons (o := ⟨some 20, .call { callee := .value (.func 85), args := #[.tmp 16, .tmp 19], argTypes := #[126, 127] }, 126, "ref.go:135", #[{ on := 0, ground := .data }, { on := 3, ground := .data }, { on := 3, ground := .chain }], none⟩) rfl (fun K hK => ?_) AllReady.nil
        go_simp
        refine (HBL.out _ HS2.out.k).mono ?_
        rintro e w5 ⟨rfl, hk5⟩
        have HS3 := Lib.hid (HS2.out.kp hk5)
        clear hk5 HS2
        go_simp
        refine hK _ _ ?_
        clear hK K
        go_simp
        refine wpAny_ready (rs := [5]) (by kernel_rfl) (by simp) ?_
        refine AllReady.cons (o := ⟨none, .store 126 (.tmp 4) (.tmp 20), 0, "ref.go:135", #[{ on := 4, ground := .data }, { on := 4, ground := .chain }, { on := 0, ground := .phase }, { on := 1, ground := .phase }, { on := 2, ground := .phase }, { on := 3, ground := .phase }, { on := 4, ground := .phase }], none⟩) rfl (fun K hK => ?_) AllReady.nil
        refine step_store_mid (by rfl) 126 (.tmp 4) (.tmp 20) (by rfl) D 0 (u32s st2) (by rfl) (by rfl) (HS3.out.there _ (by rw [u32s_size, HSL2.out, HSL.out]; exact Nat.le_refl _)) (by rw [u32s_size, HSL2.out]; kernel_rfl) (one_u32s _) ?_
        have HS4 := Lib.hid (HS3.out.set st2 (by rw [HSL2.out, HSL.out]))
        generalize w5.setCells D 0 (u32s st2).toList = w6 at *
        clear HS3
        refine hK _ _ ?_
        clear hK K
        go_simp
        refine wpAny_done (by kernel_rfl) ?_ _
        go_wp2_with fail
        go_roundw
        case rel => exact ⟨k + 1, by omega, by go_num, by rw [HE2.out]; exact HS4⟩
        case measure => simp [intOf]; omega
    · have hkq : k = q := by omega
      subst hkq
      have HSL : Hid ((cmpN kk bg l k).length = 8) := Lib.hid (by rw [cmpN_len]; exact HT.out.hb)
      have HB := Lib.hid (fun W => bytesOf_any (cmpN kk bg l k) HSL.out (w32_cmpN HT.out.b32 k) W)
      generalize cmpN kk bg l k = st at *
      rw [← HR.out] at HB
      have HZS : Hid ((u32s st).size = 8) := Lib.hid (by rw [u32s_size, HSL.out])
      have HZ : Hid ((u8s res).size = 32) := Lib.hid (by rw [HR.out, u8s_size, outw_len])
      go_wp2_with (first
        | (refine wpList_load_row (by rfl) 126 (.tmp 4) (by rfl) D (by rfl) 126 (u32s st) (0, 0) _ HS.out.row Tryd.underlying126 rfl (by rw [HZS.out]; kernel_rfl) ?_)
        | (go_at_call 87; go_must (refine (HB.out _).mono ?_; rintro e w4 ⟨rfl, hk4⟩; have HS2 := Lib.hid (HS.out.kp hk4); clear hk4))
        | (refine wpList_store_row (by rfl) 22 (.tmp 2) (.tmp 22) (by rfl) A (u8s res) (by rfl) (by rfl) 22 _ HS2.out.box (by rw [HZ.out]; kernel_rfl) (by rw [HZ.out, u8s_size, List.length_replicate]) (one_u8s _) ?_))
      have r2 := setRow_heap w4 A _ (u8s res) _ _ HS2.out.box
      have r1 := HS2.out.k.trans (kp_setRow w4 A (u8s res)) (fun m hm => by rw [List.mem_singleton] at hm; subst hm; exact .inr HS2.out.hA)
      exact bodyPost_ret (results_cell_row rfl _ _ A 22 _ (0, 0) _ rfl r2 Tryd.underlying22 rfl (by rw [HZ.out]; kernel_rfl)) rfl ⟨rfl, r1⟩
end Go.Proofs.YtkceaepbjdfccaaDoor
/-
letheref26: named, New, Len; (Parcel).whole, text, twin.
-/
namespace Go.Proofs.YtkceaepbjdfccaaDoor
open Go.RowKit
set_option maxRecDepth 100000 in
theorem rnamed_any (s : ByteArray) (w : World) (hs : s.size ≤ 140737488351232) :
    Calls Tryd.prog 74 #[.string s] w fun e w' => e = .returned (.bool (decide (peerErr s.size = 0))) ∧ w = w' := by
  by_cases h0 : s.size = 0
  · have e : decide (peerErr s.size = 0) = false := by unfold peerErr; rw [if_pos (.inl h0)]; rfl
    have E := Lib.hid e
    have h1 : decide ((1 : Int) ≤ (s.size : Int)) = false := by simp [h0]
    clear e h0
    go_enter Tryd.func74, Tryd.ntmps74
    go_wp2_with fail
    go_ret
    exact ⟨by rw [E.out]; rfl, rfl⟩
  · by_cases h1 : 16 < s.size
    · have e : decide (peerErr s.size = 0) = false := by unfold peerErr; rw [if_pos (.inr h1)]; rfl
      have E := Lib.hid e
      have h2 : (1 : Int) ≤ (s.size : Int) := by omega
      have h3 : ¬ (s.size : Int) ≤ 16 := by omega
      clear e h0 h1
      go_enter Tryd.func74, Tryd.ntmps74
      go_wp2_with fail
      go_ret
      exact ⟨by rw [E.out]; rfl, rfl⟩
    · have e : decide (peerErr s.size = 0) = true := by unfold peerErr; rw [if_neg (by omega)]; rfl
      have E := Lib.hid e
      have h2 : (1 : Int) ≤ (s.size : Int) := by omega
      have h3 : (s.size : Int) ≤ 16 := by omega
      clear e h0 h1
      go_enter Tryd.func74, Tryd.ntmps74
      go_wp2_with fail
      go_ret
      exact ⟨by rw [E.out]; rfl, rfl⟩
set_option maxRecDepth 100000 in
theorem rwhole_any (s1 s2 : ByteArray) (id N : Int) (ai at_ : Option Addr) (ni ci nt ct : Nat) (l : List Bool) (w : World) (h : Rd w (.slice ai ni ci) (l.map Value.bool)) (hl : l.length ≤ 64) :
    Calls Tryd.prog 78 #[.agg #[.string s1, .int .u32 id, .int .i64 N, .string s2, .slice ai ni ci, .slice at_ nt ct]] w fun e w' => e = .returned (.bool (l.all (·))) ∧ Kp [] w w' := by
  have hn := h.len
  rw [List.length_map] at hn
  subst hn
  have HR := Lib.hid h
  clear h
  go_enter Tryd.func78, Tryd.ntmps78
  go_wp2_with fail
  obtain ⟨w1, hw1⟩ : ∃ w1, w.alloc (.cells #[.string s1, .int .u32 id, .int .i64 N, .string s2, .slice ai l.length ci, .slice at_ nt ct] 153) = w1 := ⟨_, rfl⟩
  have HK : Hid (Kp [] w w1) := Lib.hid (by rw [← hw1]; exact (Kp.refl [] w).alloc _)
  have hc4 : w1.cell? ⟨w.heap.size, 4, none⟩ = some (.slice ai l.length ci) := by rw [← hw1, cell_of_row _ _ 4 _ _ _ (heap_alloc_new w _)]; rfl
  try rw [hw1]
  clear hw1
  generalize w.heap.size = B at *
  generalize hn : l.length = n at *
  have HN := Lib.hid hn
  clear hn
  go_loopw [3] (fun i wr => ∃ k : Nat, k ≤ n ∧ i = .int .i64 k ∧ wr = w1 ∧ Hid (∀ j, j < k → l[j]? = some true)) (fun i _ => n - (intOf i).toNat)
  case atStart => exact ⟨0, Nat.zero_le _, rfl, rfl, Lib.hid (fun j hj => absurd hj (Nat.not_lt_zero _))⟩
  case round =>
    obtain ⟨k, hk, rfl, rfl, HA⟩ := hrel
    by_cases hlt : k < n
    · have hkl : k < l.length := by rw [HN.out]; exact hlt
      obtain ⟨b, off, rfl, hx, hcc⟩ := (HR.out.kp0 HK.out).at (k := k) hlt
      have hlk : l[k]? = some l[k] := List.getElem?_eq_getElem hkl
      rw [List.getElem_map] at hcc
      have hkI : (k : Int) < (n : Int) := by omega
      cases hb : l[k]
      · rw [hb] at hcc hlk
        have HF : Hid (l.all (·) = false) := Lib.hid (by rw [List.all_eq_false]; exact ⟨false, List.mem_of_getElem? hlk, by simp⟩)
        clear hlk hb hx
        go_wp2_with fail
        go_ret
        exact ⟨by rw [HF.out]; rfl, HK.out⟩
      · rw [hb] at hcc hlk
        have HL := Lib.hid hlk
        clear hlk hb hx
        go_wp2_with fail
        go_roundw
        case rel => exact ⟨k + 1, by omega, by go_num, trivial, Lib.hid (fun j hj => by
          by_cases hjk : j = k
          · subst hjk; exact HL.out
          · exact HA.out j (by omega))⟩
        case measure => simp [intOf]; omega
    · have HT : Hid (l.all (·) = true) := Lib.hid (by
        rw [List.all_eq_true]
        intro x hx
        obtain ⟨j, hj, rfl⟩ := List.getElem_of_mem hx
        have h1 := HA.out j (by rw [HN.out] at hj; omega)
        rw [List.getElem?_eq_getElem hj] at h1
        simpa using h1)
      have hkI : ¬ (k : Int) < (n : Int) := by omega
      go_wp2_with fail
      go_ret
      exact ⟨by rw [HT.out]; rfl, HK.out⟩
end Go.Proofs.YtkceaepbjdfccaaDoor
/-
letheref26: New, Len; (Parcel).text, twin; sum.
-/
namespace Go.Proofs.YtkceaepbjdfccaaDoor
open Go.RowKit
theorem el_bool : El Tryd.prog 151 4 (.bool false) 1 := ⟨Tryd.underlying151, by kernel_rfl, rfl⟩
theorem flat_len : ∀ (ls : List (List UInt8)) (M : Nat), (∀ l ∈ ls, l.length ≤ M) → ls.flatten.length ≤ ls.length * M
  | [], M, _ => by simp
  | a :: r, M, h => by
    have ih := flat_len r M (fun l hl => h l (List.mem_cons_of_mem _ hl))
    have h1 := h a (List.mem_cons_self)
    rw [List.flatten_cons, List.length_append, List.length_cons, Nat.succ_mul]
    omega
set_option maxRecDepth 100000 in
theorem rtext_any (s1 s2 : ByteArray) (id N : Int) (ai at_ : Option Addr) (ni ci nt ct : Nat) (ls : List (List UInt8)) (w : World) (h : Rdd w (.slice at_ nt ct) ls) (hl : ls.length ≤ 64) (hx : ∀ l ∈ ls, l.length ≤ 512) :
    Calls Tryd.prog 80 #[.agg #[.string s1, .int .u32 id, .int .i64 N, .string s2, .slice ai ni ci, .slice at_ nt ct]] w fun e w' => ∃ v, e = .returned v ∧ Own w' w.heap.size 5 v (bv ls.flatten) ∧ Kp [] w w' := by
  have hn : nt = ls.length := by
    obtain ⟨ao, cap, he⟩ := h.form
    simp only [Value.slice.injEq] at he
    exact he.2.1
  subst hn
  have HR := Lib.hid h
  have HXL := Lib.hid hx
  clear h hx
  go_enter Tryd.func80, Tryd.ntmps80
  go_wp2_with fail
  obtain ⟨w1, hw1⟩ : ∃ w1, w.alloc (.cells #[.string s1, .int .u32 id, .int .i64 N, .string s2, .slice ai ni ci, .slice at_ ls.length ct] 153) = w1 := ⟨_, rfl⟩
  have HK : Hid (Kp [] w w1) := Lib.hid (by rw [← hw1]; exact (Kp.refl [] w).alloc _)
  have hc5 : w1.cell? ⟨w.heap.size, 5, none⟩ = some (.slice at_ ls.length ct) := by rw [← hw1, cell_of_row _ _ 5 _ _ _ (heap_alloc_new w _)]; rfl
  try rw [hw1]
  clear hw1
  generalize hB : w.heap.size = B at *
  have HBB := Lib.hid hB
  clear hB
  generalize hn : ls.length = n at *
  have HN := Lib.hid hn
  clear hn
  have HC5 := Lib.hid hc5
  clear hc5
  go_loopw [3, 4] (fun v i wr => ∃ k : Nat, k ≤ n ∧ i = .int .i64 k ∧ Hid (Kp [] w1 wr ∧ Own wr w1.heap.size 5 v (bv (ls.take k).flatten))) (fun _ i _ => n - (intOf i).toNat)
  case atStart => exact ⟨0, Nat.zero_le _, rfl, Lib.hid ⟨Kp.refl [] w1, Own.nil _ _ _⟩⟩
  case round =>
    obtain ⟨k, hk, rfl, HA⟩ := hrel
    have hc5 : wr.cell? ⟨B, 5, none⟩ = some (.slice at_ n ct) := HA.out.1.cell_some HC5.out (by simp)
    by_cases hlt : k < n
    · have hkl : k < ls.length := by rw [HN.out]; exact hlt
      obtain ⟨b, off, rfl, ao, co, hcc, hrd⟩ := (HR.out.kp0 (HK.out.trans0 HA.out.1)).at hkl
      have HRD := Lib.hid hrd
      have hkI : (k : Int) < (n : Int) := by omega
      have HTK : Hid ((ls.take (k + 1)).flatten = (ls.take k).flatten ++ ls[k]) := Lib.hid (by rw [List.take_add_one, List.getElem?_eq_getElem hkl, List.flatten_append]; simp only [Option.toList_some, List.flatten_cons, List.flatten_nil, List.append_nil])
      have HL1 : Hid ((bv (ls.take k).flatten).length ≤ 32768) := Lib.hid (by
        rw [bv_length]
        have h1 := flat_len (ls.take k) 512 (fun l hl => HXL.out l (List.mem_of_mem_take hl))
        have h2 : (ls.take k).length ≤ 64 := by rw [List.length_take]; omega
        have h3 := Nat.mul_le_mul_right 512 h2
        omega)
      have HL2 : Hid ((bv ls[k]).length ≤ 512) := Lib.hid (by rw [bv_length]; exact HXL.out _ (List.getElem_mem hkl))
      generalize ls[k] = lk at *
      generalize hpl : lk.length = pl at *
      have HPE := Lib.hid hpl
      clear hrd hpl
      go_wp2_with (first
        | (at_builtin; (refine wpl_append el_u8 rfl (.tmp 12) (.tmp 17) rfl rfl rfl HA.out.2 HRD.out (bv_oneCell _) (by have := HL1.out; have := HL2.out; omega) (by have := HL1.out; have := HL2.out; omega) HA.out.1.size ?_; intro v2 w2 ho2 hg2; have HO2 : Hid (Own w2 w1.heap.size 5 v2 (bv (ls.take (k + 1)).flatten)) := Lib.hid (by rw [HTK.out, bv_append]; exact ho2); have HK2 : Hid (Kp [] w1 w2) := Lib.hid (HA.out.1.grown hg2 (fun b hb => .inr (HA.out.2.lt hb).1)); clear ho2 hg2))
        | fail)
      go_roundw
      case rel => exact ⟨k + 1, by omega, by go_num, Lib.hid ⟨HK2.out, HO2.out⟩⟩
      case measure => simp [intOf]; omega
    · have hkI : ¬ (k : Int) < (n : Int) := by omega
      obtain rfl : n = k := by omega
      go_wp2_with fail
      go_ret
      exact ⟨_, rfl, by have h1 := HA.out.2; rw [List.take_of_length_le (by rw [HN.out]; exact Nat.le_refl _)] at h1; exact h1.base HK.out.size, HK.out.trans0 HA.out.1⟩
theorem run_cut8r (W : World) (g : Nat) :
    (Instr.sliceAt 22 (.pointer (some ⟨g, 0, none⟩)) none (some (.int .i64 8)) none).run Tryd.prog W = .ok (.slice (some ⟨g, 0, none⟩) 8 32) W := by
  have ht : Tryd.prog.underlying 22 = some (.array (Tryd.prog.arrayLen 22) (Tryd.prog.elem 22)) := by kernel_rfl
  have hl : Tryd.prog.arrayLen 22 = 32 := by kernel_rfl
  have hs : (sizeOf (Tryd.prog.elem 22)).run Tryd.prog W = .ok 1 W := by kernel_rfl
  rw [run_sliceAt_array_h W _ _ ht .i64 8 (by decide) (by rw [hl]; decide), hs, hl]
  rfl
set_option maxRecDepth 100000 in
theorem rsum8_any (kk bg : List Int) (v : Value) (l : List UInt8) (w : World) (hT : Tabr kk bg w) (hv : Rd w v (bv l)) (hl : l.length ≤ 40000) :
    Calls Tryd.prog 79 #[v] w fun e w' => e = .returned (.string (strOf (mark kk bg l))) ∧ Kp [] w w' := by
  obtain ⟨ao, cap, rfl⟩ := hv.form
  rw [show (bv l).length = l.length from bv_length l] at hv ⊢
  have HS := Lib.hid (rsum_any kk bg (toI l) (.slice ao l.length cap) w hT (by rw [iv_toI]; exact hv) (by rw [toI_len]; omega) (fun x hx => by obtain ⟨u, _, rfl⟩ := List.mem_map.1 hx; have := u.toNat_lt; unfold B8; constructor <;> omega))
  have HM := Lib.hid (bv_mark kk bg l)
  have HML := Lib.hid (mark_len kk bg l)
  have HD : Hid ((sha kk bg (toI l)).length = 32) := Lib.hid (sha_len _ _ _)
  generalize mark kk bg l = M at *
  generalize sha kk bg (toI l) = d at *
  have hsl := fun W g => run_cut8r W g
  clear hT hv
  go_enter Tryd.func79, Tryd.ntmps79
  go_upto_region 2 with (first
    | (go_at_call 62; go_must (refine HS.out.mono ?_; rintro e w1 ⟨rfl, hk1⟩; have HK1 := Lib.hid hk1; clear hk1))
    | ((with_reducible refine wpList_store_row ?a1 22 (.tmp 3) (.tmp 5) ?a2 w1.heap.size (u8s d) ?a3 ?a4 22 (u8s (List.replicate 32 0)) ?a5 ?a6 ?a7 ?a8 ?a9); (case a1 => rfl); (case a2 => rfl); (case a3 => rfl); (case a4 => rfl); (case a5 => exact heap_alloc_new w1 _); (case a6 => (rw [u8s_size, HD.out]; kernel_rfl)); (case a7 => (rw [u8s_size, u8s_size, HD.out, List.length_replicate])); (case a8 => exact one_u8s _); change wpList _ _ _ _ _ ((w1.alloc (.cells (u8s (List.replicate 32 0)) 22)).setRow w1.heap.size (u8s d)); generalize hw2 : (w1.alloc (.cells (u8s (List.replicate 32 0)) 22)).setRow w1.heap.size (u8s d) = W2 at *)
    | fail)
  have HK2 : Hid (Kp [] w W2) := Lib.hid (by
    rw [← hw2]
    exact (HK1.out.alloc _).trans (kp_setRow _ w1.heap.size (u8s d)) (fun m hm => by rw [List.mem_singleton] at hm; subst hm; exact .inr HK1.out.size))
  have hrow : W2.heap[w1.heap.size]? = some (.cells (u8s d) 22 (0, 0)) := by rw [← hw2]; exact setRow_heap _ _ _ _ _ _ (heap_alloc_new w1 _)
  clear hw2
  have hrd : Rd W2 (.slice (some ⟨w1.heap.size, 0, none⟩) 8 32) (bv M) := by
    rw [HM.out]
    refine ⟨some ⟨w1.heap.size, 0, none⟩, 32, by rw [iv_length, List.length_take, HD.out]; rfl, by rw [iv_length, List.length_take, HD.out]; decide, (fun h => by cases h), fun a ha => ?_⟩
    cases ha
    intro i u hu
    rw [Addr.add_lit]
    exact row_range hrow 8 i u hu
  have hcv := run_str (P := Tryd.prog) Tryd.underlying27 Tryd.underlying5 Tryd.underlying9 hrd
  clear hrow hrd
  go_wp2_with fail
  go_ret
  exact ⟨rfl, HK2.out⟩
end Go.Proofs.YtkceaepbjdfccaaDoor
