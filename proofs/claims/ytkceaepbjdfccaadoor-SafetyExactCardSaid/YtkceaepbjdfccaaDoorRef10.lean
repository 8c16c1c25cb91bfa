/-
letheref25.named, letheref25.Half.
-/
import Derived.Test.YtkceaepbjdfccaaDoorRef9
import Derived.Test.YtkceaepbjdfccaaDoorNumb1
import Derived.Lib.AppendStr
namespace Go.Proofs.YtkceaepbjdfccaaDoor
open Go.RowKit
set_option maxRecDepth 100000 in
theorem rnamed_any (s : ByteArray) (w : World) (hs : s.size ≤ 140737488351232) :
    Calls Tryd.prog 61 #[.string s] w fun e w' => e = .returned (.int .i64 (nameErr s.size)) ∧ w = w' := by
  by_cases h0 : s.size = 0
  · have h1 := str_empty s h0
    have e : nameErr s.size = 6 := by unfold nameErr; rw [if_pos h0]
    have E := Lib.hid e
    clear e
    go_enter Tryd.func61, Tryd.ntmps61
    go_wp2_with fail
    go_ret
    exact ⟨by rw [E.out]; rfl, rfl⟩
  · have h1 := str_full s h0
    by_cases h2 : 16 < s.size
    · have e : nameErr s.size = 5 := by unfold nameErr; rw [if_neg h0, if_pos h2]
      have E := Lib.hid e
      clear e
      go_enter Tryd.func61, Tryd.ntmps61
      go_wp2_with fail
      go_ret
      exact ⟨by rw [E.out]; rfl, rfl⟩
    · have e : nameErr s.size = 0 := by unfold nameErr; rw [if_neg h0, if_neg h2]
      have E := Lib.hid e
      clear e
      go_enter Tryd.func61, Tryd.ntmps61
      go_wp2_with fail
      go_ret
      exact ⟨by rw [E.out]; rfl, rfl⟩
theorem slice32r (W : World) (g : Nat) :
    (Instr.sliceAt 22 (.pointer (some ⟨g, 0, none⟩)) none none none).run Tryd.prog W = .ok (.slice (some ⟨g, 0, none⟩) 32 32) W := by
  have ht : Tryd.prog.underlying 22 = some (.array (Tryd.prog.arrayLen 22) (Tryd.prog.elem 22)) := by kernel_rfl
  have hl : Tryd.prog.arrayLen 22 = 32 := by kernel_rfl
  have hs : (sizeOf (Tryd.prog.elem 22)).run Tryd.prog W = .ok 1 W := by kernel_rfl
  rw [run_sliceAt_array_all W _ _ ht, hs, hl]
  rfl
/-- what lies where in the document's Half: the key in K, the digest in D -/
structure RH (w wr : World) (K D : Nat) (key d : List Int) : Prop where
  k : Kp [] w wr
  hK : w.heap.size ≤ K
  hD : K < D
  key : wr.heap[K]? = some (.cells (u8s key) 22 (0, 0))
  dig : wr.heap[D]? = some (.cells (u8s d) 22 (0, 0))
theorem RH.kp {w wr w' : World} {K D : Nat} {key d : List Int} (h : RH w wr K D key d) (k : Kp [] wr w') : RH w w' K D key d := ⟨h.k.trans0 k, h.hK, h.hD, k.heap h.key (by simp), k.heap h.dig (by simp)⟩
theorem RH.set {w wr : World} {K D : Nat} {key d : List Int} (h : RH w wr K D key d) (d' : List Int) : RH w (wr.setRow D (u8s d')) K D key d' := by
  have hK := h.hK
  have hD := h.hD
  exact ⟨h.k.trans (kp_setRow wr D _) (fun m hm => by rw [List.mem_singleton] at hm; subst hm; exact .inr (by omega)), hK, hD, (kp_setRow wr D (u8s d')).heap h.key (by simp; omega), setRow_heap wr D _ _ _ _ h.dig⟩
theorem RH.start {w w1 : World} {key : List Int} {old : Array Value} {K : Nat} (k : Kp [] w w1) (hk : w1.heap[K]? = some (.cells (u8s key) 22 (0, 0))) (T : TypeId) (d : List Int) (hK : w.heap.size ≤ K) (hT : T = 22) :
    RH w ((w1.alloc (.cells old T)).setRow w1.heap.size (u8s d)) K w1.heap.size key d := by
  subst hT
  have hlt : K < w1.heap.size := (Array.getElem?_eq_some_iff.1 hk).1
  have k1 : Kp [] w1 (w1.alloc (.cells old 22)) := (Kp.refl _ _).alloc _
  have k2 := kp_setRow (w1.alloc (.cells old 22)) w1.heap.size (u8s d)
  exact ⟨(k.trans0 k1).trans k2 (fun m hm => by rw [List.mem_singleton] at hm; subst hm; exact .inr k.size), hK, hlt, k2.heap (k1.heap hk (by simp)) (by simp; omega), setRow_heap _ w1.heap.size _ _ _ _ (heap_alloc_new w1 _)⟩
/-- the same, and the digits so far -/
structure RO (w wr : World) (K D : Nat) (key d : List Int) (v : Value) (l : List UInt8) : Prop where
  m : RH w wr K D key d
  o : Own wr w.heap.size 5 v (bv l)
theorem RO.app {w wr w' : World} {K D : Nat} {key d : List Int} {v v' : Value} {l l' : List UInt8} {ob : Obj} (h : RO w wr K D key d v l) (ho : Own w' w.heap.size 5 v' (bv l')) (hg : (wr.alloc ob).grownBy w' v.ownBlock) :
    RO w w' K D key d v' l' := by
  have k0 : Kp [] wr (wr.alloc ob) := (Kp.refl _ _).alloc _
  have k1 : Kp v.ownBlock.toList (wr.alloc ob) w' := Kp.of_grown hg (fun k hk => .inl (by rw [hk]; simp))
  have hh : ∀ (T : Nat) (cs : Array Value) (e : TypeId) (fz : Nat × Nat), wr.heap[T]? = some (.cells cs e fz) → e ≠ 5 → w'.heap[T]? = some (.cells cs e fz) :=
    fun T cs e fz hT he => k1.heap (k0.heap hT (by simp)) (h.o.off hT he)
  refine ⟨⟨(h.m.k.trans0 k0).trans k1 (fun m hm => ?_), h.m.hK, h.m.hD, hh _ _ _ _ h.m.key (by decide), hh _ _ _ _ h.m.dig (by decide)⟩, ho⟩
  rw [Option.mem_toList] at hm
  exact .inr (h.o.lt hm).1
theorem strCells_iv (s : ByteArray) : Lib.strCells s = iv (nums s) := by simp [Lib.strCells, iv, nums, List.map_map]
/-- a string's bytes behind bytes of its own -/
theorem wpl_append_str {w : World} {ops : Array Oper} {rest : List Oper} {o : Oper} {a : Act} {Q : Exit → Act → World → Prop} (hgd : o.guard = none) (sl x : Operand)
    (ho : o.op = .call { callee := .builtin .append, args := #[sl, x], argTypes := #[27, 9] })
    {B : Nat} {v : Value} {l : List Int} (hs : a.eval sl = v) (hown : Own w B 5 v (iv l)) {s : ByteArray} (hx : a.eval x = .string s)
    (hl : l.length + s.size ≤ 1000000) (hB : B ≤ w.heap.size)
    (h : ∀ v' w', Own w' B 5 v' (iv l ++ iv (nums s)) → w.grownBy w' v.ownBlock → wpList Tryd.prog ops Q rest (a.put o.dst v') w') : wpList Tryd.prog ops Q (o :: rest) a w := by
  obtain ⟨i, hi, hz0, hz1, hz2⟩ := info_parts el_byt.hi
  have hivl : (iv l).length = l.length := iv_length l
  refine Lib.wpList_append_own_string w hgd sl x 27 9 ho B 5 i und_bytes und_str hi hz0 hz1 hz2 v (iv l).length (iv l) hs hown s hx (by rw [hivl]; unfold maxLen; omega) (by rw [hivl]; omega) hB ?_
  intro v' w' h1 h2 _
  refine h v' w' ?_ h2
  rw [strCells_iv] at h1
  unfold Own
  rw [List.length_append, iv_length (nums s), nums_len]
  exact h1
theorem PdM.lit2 (w : World) (a b : Int) : PdM w (w.alloc (.cells #[.int .u8 a, .int .u8 b] 5)) [a, b] (.slice (some ⟨w.heap.size, 0, none⟩) 2 2) :=
  ⟨(Kp.refl _ _).alloc _, Own.lit w 5 #[.int .u8 a, .int .u8 b] (Nat.le_refl _) (by simp)⟩
theorem b8_nums (s : ByteArray) : ∀ x ∈ nums s, B8 x := fun x hx => by
  obtain ⟨c, _, rfl⟩ := List.mem_map.1 hx
  have := c.toNat_lt
  exact ⟨by omega, by omega⟩
theorem b8_app {l m : List Int} (h : ∀ x ∈ l, B8 x) (h' : ∀ x ∈ m, B8 x) : ∀ x ∈ l ++ m, B8 x := fun x hx => by
  rcases List.mem_append.1 hx with h1 | h1
  · exact h x h1
  · exact h' x h1
theorem b8_chain (kk bg nm key : List Int) : ∀ i, ∀ x ∈ chain kk bg nm key i, B8 x
  | 0 => sha_mem _ _ _
  | _ + 1 => sha_mem _ _ _
/-- the powers of ten -/
def pw : Nat → Int
  | 0 => 10000
  | 1 => 1000
  | 2 => 100
  | 3 => 10
  | 4 => 1
  | _ => 0
set_option maxRecDepth 100000 in
set_option maxHeartbeats 1000000 in
theorem rhalf_ok (kk bg : List Int) (s : ByteArray) (key : List Int) (hkey : key.length = 32) (hk8 : ∀ x ∈ key, B8 x) (w : World) (hT : Tabr kk bg w) (hs0 : ¬ s.size = 0) (hs1 : ¬ 16 < s.size) :
    Calls Tryd.prog 38 #[.string s, .agg (u8s key)] w fun e w' => e = .returned (.tuple #[.string (strOf (half kk bg (nums s) key)), .int .i64 0]) ∧ Kp [] w w' := by
  have he : nameErr s.size = 0 := by unfold nameErr; rw [if_neg hs0, if_neg hs1]
  have hse := str_full s hs0
  have HSE := Lib.hid hse
  have HT := Lib.hid hT
  have HE := Lib.hid he
  have HK := Lib.hid hkey
  have HK8 := Lib.hid hk8
  have hsl := fun (W : World) (g : Nat) => slice32r W g
  have e8 : IntKind.u8.wrap (s.size : Int) = (s.size : Int) := by rw [IntKind.wrap_u8]; omega
  obtain ⟨w0, hw0⟩ : ∃ w0, w0 = w.alloc (.cells (u8s key) 22) := ⟨_, rfl⟩
  have H0 : Hid (Kp [] w w0 ∧ w0.heap[w.heap.size]? = some (.cells (u8s key) 22 (0, 0)) ∧ w0.heap.size = w.heap.size + 1) := Lib.hid (by rw [hw0]; exact ⟨(Kp.refl [] w).alloc _, heap_alloc_new w _, by simp⟩)
  have HP0 := Lib.hid (PdM.lit2 w0 1 (s.size : Int))
  have HC0 : Hid (chain kk bg (nums s) key 0 = sha kk bg ([1, (s.size : Int)] ++ nums s ++ key)) := Lib.hid (by rw [chain, nums_len])
  have HB0 : Hid (∀ x ∈ [1, (s.size : Int)] ++ nums s ++ key, B8 x) := Lib.hid (b8_app (b8_app (fun x hx => by
    simp only [List.mem_cons, List.not_mem_nil, or_false] at hx
    rcases hx with rfl | rfl
    · exact ⟨by decide, by decide⟩
    · exact ⟨by omega, by omega⟩) (b8_nums s)) hk8)
  have HLN : Hid (([1, (s.size : Int)] ++ nums s ++ key).length ≤ 100) := Lib.hid (by simp [nums_len, hkey]; omega)
  have HNL : Hid ((nums s).length = s.size) := Lib.hid (nums_len s)
  obtain ⟨d0, hd0⟩ : ∃ d0, d0 = chain kk bg (nums s) key 0 := ⟨_, rfl⟩
  rw [← hd0] at HC0
  have HZ : Hid ((u8s d0).size = 32) := Lib.hid (by rw [hd0, u8s_size, chain_len])
  have HD := Lib.hid hd0
  clear hT he hkey hse hk8 hd0
  go_enter Tryd.func38, Tryd.ntmps38
  go_upto_block 0 with fail
  rw [← hw0]
  clear hw0
  go_wp2_with (first
    | (go_at_call 61; go_must (refine (rnamed_any s _ (by omega)).mono ?_; rw [HE.out]; rintro e w' ⟨rfl, rfl⟩))
    | (go_at_call 62; go_must (refine (rsum_any kk bg _ _ _ (HT.out.kp (H0.out.1.trans0 H2.out.k)) H2.out.o.rd (by have := HLN.out; omega) HB0.out).mono ?_; rw [← HC0.out]; rintro e w3 ⟨rfl, hk3⟩; have HK3 : Hid (Kp [] w w3 ∧ w3.heap[w.heap.size]? = some (.cells (u8s key) 22 (0, 0))) := Lib.hid ⟨(H0.out.1.trans0 H2.out.k).trans0 hk3, (H2.out.k.trans0 hk3).heap H0.out.2.1 (by simp)⟩; clear hk3))
    | (at_builtin; (refine wpl_append_str rfl (.tmp 24) (.tmp 25) (by rfl) (by rfl) HP0.out.o (by rfl) (by simp; omega) HP0.out.k.size ?_; intro v1 w1 ho1 hg1; have H1 := Lib.hid (HP0.out.grow ho1 hg1); clear ho1 hg1))
    | (at_builtin; (refine wpl_append el_byt rfl (.tmp 27) (.tmp 28) (by rfl) (by rfl) (by rfl) H1.out.o (rd_arr (H1.out.k.heap H0.out.2.1 (by simp)) HK.out) (iv_one _) (by have h := HLN.out; rw [List.length_append] at h; rw [iv_length, iv_length]; omega) (by have h := HLN.out; rw [List.length_append] at h; rw [iv_length, iv_length]; omega) H1.out.k.size ?_; intro v2 w2 ho2 hg2; have H2 := Lib.hid (H1.out.grow ho2 hg2); clear ho2 hg2))
    | (refine wpList_store_row (by rfl) 22 (.tmp 8) (.tmp 31) (by rfl) w3.heap.size (u8s d0) (by rfl) (by rfl) 22 _ (heap_alloc_new w3 _) (by rw [HZ.out]; kernel_rfl) (by rw [HZ.out]; rfl) (one_u8s _) ?_))
  have HM0 := Lib.hid (RH.start (old := u8s (List.replicate 32 0)) HK3.out.1 HK3.out.2 22 d0 (Nat.le_refl _) rfl)
  have HS2 : Hid (∀ t v W, Tabr kk bg W → Rd W v (iv (chain kk bg (nums s) key t ++ key)) → Calls Tryd.prog 62 #[v] W fun e w' => e = .returned (.agg (u8s (chain kk bg (nums s) key (t + 1)))) ∧ Kp [] W w') := Lib.hid (fun t v W hT hv =>
    rsum_any kk bg _ v W hT hv (by simp [chain_len, HK.out]) (b8_app (b8_chain _ _ _ _ t) HK8.out))
  have HCL : Hid (∀ t, (u8s (chain kk bg (nums s) key t)).size = 32 ∧ (chain kk bg (nums s) key t).length = 32) := Lib.hid (fun t => ⟨by rw [u8s_size, chain_len], chain_len _ _ _ _ _⟩)
  rw [HD.out] at HM0
  clear HC0 HB0 HLN HNL H0 HP0 H1 H2 HK3 HE
  rw [HD.out]
  generalize hK : w.heap.size = K at *
  generalize hDD : w3.heap.size = D at *
  have HW := Lib.hid hK
  clear hK hDD
  go_loopw [7, 9] (fun _ i wr => ∃ t : Nat, t ≤ 15 ∧ i = .int .i64 t ∧ Hid (RH w wr K D key (chain kk bg (nums s) key t))) (fun _ i _ => 15 - (intOf i).toNat)
  case atStart => exact ⟨0, Nat.zero_le _, rfl, HM0⟩
  case round =>
    clear HM0
    obtain ⟨t, ht, rfl, HR⟩ := hrel
    by_cases hlt : t < 15
    · have hltI : (t : Int) < 15 := by omega
      go_wp2_with (first
        | (go_at_call 62; go_must (refine (HS2.out t _ _ (HT.out.kp (HR.out.k.trans0 H2.out.k)) H2.out.o.rd).mono ?_; rintro e w6 ⟨rfl, hk6⟩; have HR3 := Lib.hid (HR.out.kp (H2.out.k.trans0 hk6)); clear hk6))
        | (at_builtin; (refine wpl_append el_byt rfl (.const (.slice none 0 0)) (.tmp 36) (by rfl) (by rfl) (by rfl) (Own.nil wr wr.heap.size 5) (rd_arr HR.out.dig (HCL.out t).2) (iv_one _) (by simp [iv_length, chain_len]) (by simp [iv_length, chain_len]) (Nat.le_refl _) ?_; intro v1 w4 ho1 hg1; have H1 : Hid (PdM wr w4 (chain kk bg (nums s) key t) v1) := Lib.hid ((PdM.nil wr).grow (c := chain kk bg (nums s) key t) ho1 hg1); clear ho1 hg1))
        | (at_builtin; (refine wpl_append el_byt rfl (.tmp 38) (.tmp 39) (by rfl) (by rfl) (by rfl) H1.out.o (rd_arr (H1.out.k.heap HR.out.key (by simp)) HK.out) (iv_one _) (by simp [iv_length, chain_len, HK.out]) (by simp [iv_length, chain_len, HK.out]) H1.out.k.size ?_; intro v2 w5 ho2 hg2; have H2 := Lib.hid (H1.out.grow ho2 hg2); clear ho2 hg2))
        | (refine wpList_store_row (by rfl) 22 (.tmp 8) (.tmp 42) (by rfl) D (u8s (chain kk bg (nums s) key (t + 1))) (by rfl) (by rfl) 22 _ HR3.out.dig (by rw [(HCL.out _).1]; kernel_rfl) (by rw [(HCL.out _).1, (HCL.out _).1]) (one_u8s _) ?_))
      go_roundw
      case rel => exact ⟨t + 1, by omega, by go_num, Lib.hid (HR3.out.set _)⟩
      case measure => simp [intOf]; omega
    · have ht15 : t = 15 := by omega
      subst ht15
      rw [show (((15 : Nat)) : Int) = 15 from rfl]
      have HB : Hid (Byts (chain kk bg (nums s) key 15)) := Lib.hid (chain_byts _ _ _ _ _)
      have HLN := Lib.hid (HCL.out 15).2
      have HHF : Hid (half kk bg (nums s) key = halfL (chain kk bg (nums s) key 15) 6) := Lib.hid rfl
      clear HS2 HCL HZ HD
      generalize chain kk bg (nums s) key 15 = d at *
      have HO0 : Hid (RO w wr K D key d (.slice none 0 0) (halfL d 0)) := Lib.hid ⟨HR.out, Own.nil _ _ _⟩
      clear HR
      go_wp2_with fail
      go_loopw [10, 11] (fun v i wx => ∃ q : Nat, q ≤ 6 ∧ i = .int .i64 q ∧ Hid (RO w wx K D key d v (halfL d q))) (fun _ i _ => 6 - (intOf i).toNat)
      case atStart => exact ⟨0, Nat.zero_le _, rfl, HO0⟩
      case round =>
        clear HO0
        obtain ⟨q, hq, rfl, HQ⟩ := hrel
        by_cases hlq : q < 6
        · have hlqI : (q : Int) < 6 := by omega
          go_wp2_with fail
          go_loop [12, 13] (fun n i => ∃ j : Nat, j ≤ 5 ∧ i = .int .i64 j ∧ n = .int .i64 (num5 d q j)) (fun _ i => 5 - (intOf i).toNat)
          case atStart => exact ⟨0, by decide, rfl, rfl⟩
          case round =>
            obtain ⟨j, hj, rfl, rfl⟩ := hrel
            by_cases hlj : j < 5
            · have hN := num5_small HB.out q j hlj
              have hb := HB.out (5 * q + j)
              have hcell : wr.cell? ⟨D, 5 * q + j, none⟩ = some (.int .u8 (d.getD (5 * q + j) 0)) := by
                rw [cell_of_row _ _ _ _ _ _ HQ.out.m.dig, u8s_getD _ _ (by rw [HLN.out]; omega)]
              have HS : Hid (num5 d q (j + 1) = num5 d q j * 256 + d.getD (5 * q + j) 0) := Lib.hid rfl
              generalize num5 d q j = N at *
              generalize d.getD (5 * q + j) 0 = b at *
              have h0 : 0 ≤ N := hN.1
              have h1 : N < 4294967296 := hN.2
              have hb0 := hb.1
              have hb1 := hb.2
              have j1 : (j : Int) < 5 := by omega
              have j2 : 5 * (q : Int) + (j : Int) < 32 := by omega
              have j3 : (0 : Int) ≤ 5 * (q : Int) + (j : Int) := by omega
              clear hN hb
              go_wp2_with fail
              go_round
              case rel => exact ⟨j + 1, by omega, by go_num, by rw [HS.out]⟩
              case measure => simp [intOf]; omega
            · have hj5 : j = 5 := by omega
              subst hj5
              have HNN := Lib.hid (num5_five HB.out q)
              have HHL : Hid (halfL d (q + 1) = halfL d q ++ five (num5 d q 5)) := Lib.hid rfl
              have HLE : Hid ((halfL d q).length ≤ 30) := Lib.hid (by rw [halfL_len]; omega)
              generalize num5 d q 5 = N at *
              have n0 : 0 ≤ N := HNN.out.1
              have n1 : N < 1099511627776 := HNN.out.2
              generalize halfL d q = L at *
              have HQ4 : Hid (RO w wr K D key d u10 (L ++ (five N).take 0)) := Lib.hid (by rw [List.take_zero, List.append_nil]; exact HQ.out)
              clear HQ
              go_wp2_with fail
              go_loopw [10, 14] (fun v p wx => ∃ j : Nat, j ≤ 5 ∧ p = .int .i64 (pw j) ∧ Hid (RO w wx K D key d v (L ++ (five N).take j))) (fun _ p _ => (intOf p).toNat)
              case atStart => exact ⟨0, by decide, rfl, HQ4⟩
              case round =>
                clear HQ4
                obtain ⟨j, hj, rfl, HR4⟩ := hrel
                have hj5 : j = 0 ∨ j = 1 ∨ j = 2 ∨ j = 3 ∨ j = 4 ∨ j = 5 := by omega
                rcases hj5 with rfl | rfl | rfl | rfl | rfl | rfl
                · have HV : Hid (bv (L ++ (five N).take 0) ++ [.int .u8 (48 + N / 10000 % 10)] = bv (L ++ (five N).take 1)) := Lib.hid (by
                    rw [show (five N).take 1 = (five N).take 0 ++ [digit N 10000] from rfl, ← List.append_assoc, bv_append (L ++ (five N).take 0)]
                    show _ = _ ++ [bval (digit N 10000)]
                    rw [bval_digit])
                  have HQ : Hid (RO w wr K D key d u10 (L ++ (five N).take 0)) := HR4
                  clear HR4
                  simp only [pw]
                  go_wp2_with (first
                    | (at_builtin; go_must (refine wpl_append el_byt rfl (.tmp 65) (.tmp 72) (by rfl) (by rfl) (by rfl) (HQ.out.o.kp0 ((Kp.refl [] wr).alloc _)) (rd_lit1 wr 5 _) (by simp [Value.oneCell']) (by have := HLE.out; simp [bv_length, five]; omega) (by have := HLE.out; simp [bv_length, five]; omega) (by have := HQ.out.m.k.size; simp; omega) ?_; intro v2 w5 ho5 hg5; rw [HV.out] at ho5; have H5 := Lib.hid (HQ.out.app ho5 hg5); clear ho5 hg5))
                    | fail)
                  go_roundw
                  case rel => exact ⟨1, by decide, rfl, H5⟩
                  case measure => simp [intOf]
                · have HV : Hid (bv (L ++ (five N).take 1) ++ [.int .u8 (48 + N / 1000 % 10)] = bv (L ++ (five N).take 2)) := Lib.hid (by
                    rw [show (five N).take 2 = (five N).take 1 ++ [digit N 1000] from rfl, ← List.append_assoc, bv_append (L ++ (five N).take 1)]
                    show _ = _ ++ [bval (digit N 1000)]
                    rw [bval_digit])
                  have HQ : Hid (RO w wr K D key d u10 (L ++ (five N).take 1)) := HR4
                  clear HR4
                  simp only [pw]
                  go_wp2_with (first
                    | (at_builtin; go_must (refine wpl_append el_byt rfl (.tmp 65) (.tmp 72) (by rfl) (by rfl) (by rfl) (HQ.out.o.kp0 ((Kp.refl [] wr).alloc _)) (rd_lit1 wr 5 _) (by simp [Value.oneCell']) (by have := HLE.out; simp [bv_length, five]; omega) (by have := HLE.out; simp [bv_length, five]; omega) (by have := HQ.out.m.k.size; simp; omega) ?_; intro v2 w5 ho5 hg5; rw [HV.out] at ho5; have H5 := Lib.hid (HQ.out.app ho5 hg5); clear ho5 hg5))
                    | fail)
                  go_roundw
                  case rel => exact ⟨2, by decide, rfl, H5⟩
                  case measure => simp [intOf]
                · have HV : Hid (bv (L ++ (five N).take 2) ++ [.int .u8 (48 + N / 100 % 10)] = bv (L ++ (five N).take 3)) := Lib.hid (by
                    rw [show (five N).take 3 = (five N).take 2 ++ [digit N 100] from rfl, ← List.append_assoc, bv_append (L ++ (five N).take 2)]
                    show _ = _ ++ [bval (digit N 100)]
                    rw [bval_digit])
                  have HQ : Hid (RO w wr K D key d u10 (L ++ (five N).take 2)) := HR4
                  clear HR4
                  simp only [pw]
                  go_wp2_with (first
                    | (at_builtin; go_must (refine wpl_append el_byt rfl (.tmp 65) (.tmp 72) (by rfl) (by rfl) (by rfl) (HQ.out.o.kp0 ((Kp.refl [] wr).alloc _)) (rd_lit1 wr 5 _) (by simp [Value.oneCell']) (by have := HLE.out; simp [bv_length, five]; omega) (by have := HLE.out; simp [bv_length, five]; omega) (by have := HQ.out.m.k.size; simp; omega) ?_; intro v2 w5 ho5 hg5; rw [HV.out] at ho5; have H5 := Lib.hid (HQ.out.app ho5 hg5); clear ho5 hg5))
                    | fail)
                  go_roundw
                  case rel => exact ⟨3, by decide, rfl, H5⟩
                  case measure => simp [intOf]
                · have HV : Hid (bv (L ++ (five N).take 3) ++ [.int .u8 (48 + N / 10 % 10)] = bv (L ++ (five N).take 4)) := Lib.hid (by
                    rw [show (five N).take 4 = (five N).take 3 ++ [digit N 10] from rfl, ← List.append_assoc, bv_append (L ++ (five N).take 3)]
                    show _ = _ ++ [bval (digit N 10)]
                    rw [bval_digit])
                  have HQ : Hid (RO w wr K D key d u10 (L ++ (five N).take 3)) := HR4
                  clear HR4
                  simp only [pw]
                  go_wp2_with (first
                    | (at_builtin; go_must (refine wpl_append el_byt rfl (.tmp 65) (.tmp 72) (by rfl) (by rfl) (by rfl) (HQ.out.o.kp0 ((Kp.refl [] wr).alloc _)) (rd_lit1 wr 5 _) (by simp [Value.oneCell']) (by have := HLE.out; simp [bv_length, five]; omega) (by have := HLE.out; simp [bv_length, five]; omega) (by have := HQ.out.m.k.size; simp; omega) ?_; intro v2 w5 ho5 hg5; rw [HV.out] at ho5; have H5 := Lib.hid (HQ.out.app ho5 hg5); clear ho5 hg5))
                    | fail)
                  go_roundw
                  case rel => exact ⟨4, by decide, rfl, H5⟩
                  case measure => simp [intOf]
                · have HV : Hid (bv (L ++ (five N).take 4) ++ [.int .u8 (48 + N % 10)] = bv (L ++ (five N).take 5)) := Lib.hid (by
                    rw [show (five N).take 5 = (five N).take 4 ++ [digit N 1] from rfl, ← List.append_assoc, bv_append (L ++ (five N).take 4)]
                    show _ = _ ++ [bval (digit N 1)]
                    rw [bval_digit, Int.ediv_one])
                  have HQ : Hid (RO w wr K D key d u10 (L ++ (five N).take 4)) := HR4
                  clear HR4
                  simp only [pw]
                  go_wp2_with (first
                    | (at_builtin; go_must (refine wpl_append el_byt rfl (.tmp 65) (.tmp 72) (by rfl) (by rfl) (by rfl) (HQ.out.o.kp0 ((Kp.refl [] wr).alloc _)) (rd_lit1 wr 5 _) (by simp [Value.oneCell']) (by have := HLE.out; simp [bv_length, five]; omega) (by have := HLE.out; simp [bv_length, five]; omega) (by have := HQ.out.m.k.size; simp; omega) ?_; intro v2 w5 ho5 hg5; rw [HV.out] at ho5; have H5 := Lib.hid (HQ.out.app ho5 hg5); clear ho5 hg5))
                    | fail)
                  go_roundw
                  case rel => exact ⟨5, by decide, rfl, H5⟩
                  case measure => simp [intOf]
                · rw [List.take_of_length_le (by rw [five_len]; omega), ← HHL.out] at HR4
                  simp only [pw]
                  go_wp2_with fail
                  go_roundw
                  case rel => exact ⟨q + 1, by omega, by go_num, HR4⟩
                  case measure => simp [intOf]; omega
        · have hq6 : q = 6 := by omega
          subst hq6
          have hstr := fun W (h : Rd W u10 (bv (halfL d 6))) => run_str (P := Tryd.prog) und_bytes und_u8 und_str h
          have hs := hstr wr HQ.out.o.rd
          clear hstr
          go_wp2_with fail
          go_ret2
          exact ⟨by rw [HHF.out]; rfl, HQ.out.m.k⟩
set_option maxRecDepth 100000 in
set_option maxHeartbeats 1000000 in
theorem rhalf_err (s : ByteArray) (key : List Int) (w : World) (hs : s.size ≤ 140737488351232) (h : nameErr s.size ≠ 0) :
    Calls Tryd.prog 38 #[.string s, .agg (u8s key)] w fun e w' => e = .returned (.tuple #[.string ⟨#[]⟩, .int .i64 (nameErr s.size)]) ∧ Kp [] w w' := by
  have hb : (nameErr s.size != 0) = true := by simpa using h
  have HN := Lib.hid (fun W => rnamed_any s W hs)
  generalize nameErr s.size = E at *
  clear h
  go_enter Tryd.func38, Tryd.ntmps38
  go_wp2_with (go_at_call 61; go_must (refine (HN.out _).mono ?_; rintro e w' ⟨rfl, rfl⟩))
  go_ret2
  exact ⟨rfl, (Kp.refl [] w).alloc _⟩
theorem rhalf_any (kk bg : List Int) (s : ByteArray) (key : List Int) (hkey : key.length = 32) (hk8 : ∀ x ∈ key, B8 x) (w : World) (hT : Tabr kk bg w) (hs : s.size ≤ 140737488351232) :
    Calls Tryd.prog 38 #[.string s, .agg (u8s key)] w fun e w' => e = .returned (.tuple #[.string (strOf (halfS kk bg s key)), .int .i64 (nameErr s.size)]) ∧ Kp [] w w' := by
  unfold halfS
  by_cases h : nameErr s.size = 0
  · obtain ⟨h0, h1⟩ := nameErr_zero h
    rw [if_pos h, h]
    exact rhalf_ok kk bg s key hkey hk8 w hT h0 h1
  · rw [if_neg h]
    exact rhalf_err s key w hs h
end Go.Proofs.YtkceaepbjdfccaaDoor
