/-
letheref02.Sum.
-/
import Derived.Test.YtkceaepbjdfccaaDoorRef8
import Derived.Test.YtkceaepbjdfccaaDoorSha5
namespace Go.Proofs.YtkceaepbjdfccaaDoor
open Go.RowKit
/-- the two tables of the document's hash -/
structure Tabr (kk bg : List Int) (w : World) : Prop where
  hk : kk.length = 64
  hb : bg.length = 8
  k32 : ∀ x ∈ kk, W32 x
  b32 : ∀ x ∈ bg, W32 x
  ck : ∃ T fr, w.heap[3]? = some (.cells (u64s kk) T fr)
  cb : ∃ T fr, w.heap[2]? = some (.cells (u64s bg) T fr)
theorem Tabr.kp {kk bg : List Int} {w w' : World} (h : Tabr kk bg w) (k : Kp [] w w') : Tabr kk bg w' := by
  obtain ⟨h1, h2, h3, h4, ⟨t1, f1, c1⟩, ⟨t2, f2, c2⟩⟩ := h
  exact ⟨h1, h2, h3, h4, ⟨t1, f1, k.heap c1 (by simp)⟩, ⟨t2, f2, k.heap c2 (by simp)⟩⟩
/-- what lies where, while blocks are taken in -/
structure SB (w wr : World) (A D : Nat) (st l : List Int) (v : Value) : Prop where
  k : Kp [] w wr
  hA : w.heap.size ≤ A
  hD : A < D
  box : wr.heap[A]? = some (.cells (u8s (List.replicate 32 0)) 22 (0, 0))
  row : wr.heap[D]? = some (.cells (u32s st) 126 (0, 0))
  rd : Rd wr v (iv l)
  hne : ∀ b, v.ownBlock = some b → b ≠ D
theorem SB.kp {w wr w' : World} {A D : Nat} {st l : List Int} {v : Value} (h : SB w wr A D st l v) (k : Kp [] wr w') : SB w w' A D st l v :=
  ⟨h.k.trans0 k, h.hA, h.hD, k.heap h.box (by simp), k.heap h.row (by simp), h.rd.kp0 k, h.hne⟩
theorem SB.drew {w wr : World} {A D : Nat} {st l : List Int} {v : Value} (h : SB w wr A D st l v) : SB w wr.drew A D st l v :=
  ⟨h.k.drew, h.hA, h.hD, h.box, h.row, h.rd.drew, h.hne⟩
theorem SB.range {w wr : World} {A D : Nat} {st l : List Int} {v : Value} (h : SB w wr A D st l v) : wr.rangeAt D 0 (st.map (Value.int .u32)) := by
  intro j x hx
  rw [Nat.zero_add, cell_of_row wr D j _ _ _ h.row]
  simpa [u32s] using hx
theorem SB.there {w wr : World} {A D : Nat} {st l : List Int} {v : Value} (h : SB w wr A D st l v) (n : Nat) (hn : n ≤ st.length) : wr.there D 0 n := fun j hj => by
  refine ⟨?_, by rw [Nat.zero_add]; exact frozen_of_row wr D j _ _ h.row⟩
  rw [Nat.zero_add, cell_of_row wr D j _ _ _ h.row, u32s_getD _ _ (by omega)]
  rfl
theorem SB.set {w wr : World} {A D : Nat} {st l : List Int} {v : Value} (h : SB w wr A D st l v) (st' : List Int) (hl : st'.length = st.length) : SB w (wr.setCells D 0 (u32s st').toList) A D st' l v := by
  have k := kp_setCells D (u32s st').toList 0 wr
  have hA := h.hA
  have hD := h.hD
  refine ⟨h.k.trans k (fun m hm => by rw [List.mem_singleton] at hm; subst hm; exact .inr (by omega)), hA, hD, k.heap h.box (by simp; omega), ?_, h.rd.kp k (fun b hb => by rw [List.mem_singleton]; exact h.hne b hb), h.hne⟩
  rw [setCells_row D _ _ 0 _ wr h.row (by simp [u32s, hl])]
  congr 3
  simp [u32s, hl]
theorem SB.start {w w1 w2 : World} {l st : List Int} {v1 : Value} {Z : Array Value} (k1 : Kp [] (w.alloc (.cells (u8s (List.replicate 32 0)) 22)) w1) (o1 : Own w1 (w.alloc (.cells (u8s (List.replicate 32 0)) 22)).heap.size 5 v1 (iv l)) (k2 : Kp [] w1 w2) :
    SB w ((w2.alloc (.cells Z 126)).setRow w2.heap.size (u32s st)) w.heap.size w2.heap.size st l v1 := by
  have k0 : Kp [] w (w.alloc (.cells (u8s (List.replicate 32 0)) 22)) := (Kp.refl [] w).alloc _
  have hb : (w.alloc (.cells (u8s (List.replicate 32 0)) 22)).heap[w.heap.size]? = some (.cells (u8s (List.replicate 32 0)) 22) := heap_alloc_new w _
  have kA := (k0.trans0 k1).trans0 k2
  have hz : w.heap.size < w2.heap.size := by have h1 := k1.size; have h2 := k2.size; simp at h1; omega
  have kB : Kp [] w2 (w2.alloc (.cells Z 126)) := (Kp.refl [] w2).alloc _
  have kC : Kp [w2.heap.size] (w2.alloc (.cells Z 126)) ((w2.alloc (.cells Z 126)).setRow w2.heap.size (u32s st)) := kp_setRow _ _ _
  have kD : Kp [] w2 ((w2.alloc (.cells Z 126)).setRow w2.heap.size (u32s st)) := kB.trans kC (fun m hm => by rw [List.mem_singleton] at hm; subst hm; exact .inr (Nat.le_refl _))
  have kE := k2.trans0 kD
  refine ⟨kA.trans0 kD, Nat.le_refl _, hz, kE.heap (k1.heap hb (by simp)) (by simp), setRow_heap _ _ _ _ _ _ (heap_alloc_new w2 _), o1.rd.kp0 kE, fun b hb => ?_⟩
  have h1 := (o1.lt hb).2
  have h2 := k2.size
  omega
set_option maxRecDepth 100000 in
set_option maxHeartbeats 1000000 in
theorem rsum_any (kk bg m : List Int) (v : Value) (w : World) (hT : Tabr kk bg w) (hv : Rd w v (iv m)) (hm : m.length ≤ 1000000) (h8 : ∀ x ∈ m, B8 x) :
    Calls Tryd.prog 62 #[v] w fun e w' => e = .returned (.agg (u8s (sha kk bg m))) ∧ Kp [] w w' := by
  have HT := Lib.hid hT
  have HPA := Lib.hid (padded_any m v (w.alloc (.cells (u8s (List.replicate 32 0)) 22)) (hv.kp0 ((Kp.refl [] w).alloc _)) hm)
  have HR : Hid (sha kk bg m = outw (cmpN kk bg (m ++ pad m.length) ((m ++ pad m.length).length / 64)) 8) := Lib.hid (sha_blocks kk bg m)
  have HL8 : Hid (∀ x ∈ m ++ pad m.length, B8 x) := Lib.hid (fun x hx => by
    rcases List.mem_append.1 hx with h | h
    · exact h8 x h
    · exact b8_pad _ x h)
  have hll : (m ++ pad m.length).length ≤ 1000100 := by rw [List.length_append]; have := pad_small m.length; omega
  have h64 : (m ++ pad m.length).length % 64 = 0 := by rw [List.length_append]; exact pad_len _
  generalize m ++ pad m.length = l at *
  generalize sha kk bg m = res at *
  obtain ⟨q, hq⟩ : ∃ q, q = l.length / 64 := ⟨_, rfl⟩
  rw [← hq] at HR
  have HLQ : Hid (l.length = 64 * q ∧ q ≤ 20000) := Lib.hid (by omega)
  have HBE : Hid (∀ W, Tabr kk bg W → Calls Tryd.prog 84 #[] W fun e w' => e = .returned (.agg (u32s bg)) ∧ Kp [] W w') := Lib.hid (fun W hW => by
    obtain ⟨_, fr, hb⟩ := hW.cb
    exact begin_any bg hW.hb hW.b32 W fr hb)
  have HZ8 : Hid ((u32s bg).size = 8) := Lib.hid (by rw [u32s_size, hT.hb])
  clear hT hv hm h8 hll h64 hq
  go_enter Tryd.func62, Tryd.ntmps62
  go_wp2_with (first
    | (go_at_call 83; go_must (refine HPA.out.mono ?_; rintro e w1 ⟨v1, rfl, hp1⟩; have HP1 := Lib.hid hp1; clear hp1))
    | (go_at_call 84; go_must (refine (HBE.out _ (HT.out.kp (((Kp.refl [] w).alloc _).trans0 HP1.out.k))).mono ?_; rintro e w2 ⟨rfl, hk2⟩; have HK2 := Lib.hid hk2; clear hk2))
    | (refine wpList_store_row (by rfl) 126 (.tmp 4) (.tmp 8) (by rfl) w2.heap.size (u32s bg) (by rfl) (by rfl) 126 (u32s (List.replicate 8 0)) (heap_alloc_new w2 _) (by rw [HZ8.out]; kernel_rfl) (by rw [HZ8.out]; rfl) (one_u32s _) ?_))
  have HS0 : Hid (SB w _ w.heap.size w2.heap.size (cmpN kk bg l 0) l v1) := Lib.hid (SB.start (st := bg) (Z := u32s (List.replicate 8 0)) HP1.out.k HP1.out.o HK2.out)
  obtain ⟨ao1, cap1, hf1⟩ := HP1.out.o.rd.form
  rw [iv_length, HLQ.out.1] at hf1
  subst hf1
  clear HP1 HK2 HBE HZ8 HPA
  generalize w.heap.size = A at *
  generalize w2.heap.size = D at *
  have HS0 : Hid (SB w _ A D (cmpN kk bg l 0) l (.slice ao1 (64 * q) cap1)) := HS0
  have hq2 : q ≤ 20000 := HLQ.out.2
  have hdt : wrap64 (q : Int) = (q : Int) := IntWalk.wrap64_in _ (by omega)
  go_loopw [5] (fun i wr => ∃ k : Nat, k ≤ q ∧ i = .int .i64 k ∧ Hid (SB w wr A D (cmpN kk bg l k) l (.slice ao1 (64 * q) cap1))) (fun i _ => q - (intOf i).toNat)
  case atStart => exact ⟨0, Nat.zero_le _, rfl, HS0⟩
  case round =>
    clear HS0
    obtain ⟨k, hk, rfl, HS⟩ := hrel
    by_cases hlt : k < q
    · have hltI : (k : Int) < (q : Int) := by omega
      go_wp2_with fail
      refine wp_region_any (by kernel_rfl) ?_
      have HS1 := Lib.hid HS.out.drew
      change wpAny _ _ _ _ _ _ _ wr.drew
      clear HS
      generalize wr.drew = w3 at *
      have HSL : Hid ((cmpN kk bg l k).length = 8) := Lib.hid (by rw [cmpN_len]; exact HT.out.hb)
      have HAT : Hid (∀ W, Rd W (.slice ao1 (64 * q) cap1) (iv l) → Calls Tryd.prog 86 #[.slice ao1 (64 * q) cap1, .int .i64 k] W fun e w' => e = .returned (.agg (u8s (blk l k))) ∧ Kp [] W w') := Lib.hid (fun W hW => at_any l _ k W hW (by have := HLQ.out.1; omega) (by have := HLQ.out.1; omega))
      have HBL : Hid (∀ W, Kp [] w W → Calls Tryd.prog 85 #[.agg (u32s (cmpN kk bg l k)), .agg (u8s (blk l k))] W fun e w' => e = .returned (.agg (u32s (cmpN kk bg l (k + 1)))) ∧ Kp [] W w') := Lib.hid (fun W hW => by
        obtain ⟨_, fr, hc⟩ := (HT.out.kp hW).ck
        exact block_any (cmpN kk bg l k) (blk l k) kk HSL.out (w32_cmpN HT.out.b32 k) (blk_len (by have := HLQ.out.1; omega)) (blk_mem HL8.out) HT.out.hk HT.out.k32 W fr hc)
      have HSL2 : Hid ((cmpN kk bg l (k + 1)).length = 8) := Lib.hid (by rw [cmpN_len]; exact HT.out.hb)
      generalize hE2 : cmpN kk bg l (k + 1) = st2 at *
      have HE2 := Lib.hid hE2
      clear hE2
      generalize cmpN kk bg l k = st at *
      refine wpAny_take (i := 1) (v := .slice ao1 (64 * q) cap1) rfl (by kernel_rfl) (by kernel_rfl) (by kernel_rfl) (fun _ _ _ h => h) (Or.inl ⟨by rfl, by intro w; go_simp⟩) ?_
      refine wpAny_take (i := 2) (v := .int .i64 (k : Int)) rfl (by kernel_rfl) (by kernel_rfl) (by kernel_rfl) (fun _ _ _ h => h) (Or.inl ⟨by rfl, by intro w; go_simp⟩) ?_
      go_simp
      refine wpAny_ready (rs := [0, 3]) (by kernel_rfl) (by simp) ?_
      refine AllReady.cons (o := ⟨some 16, .load 126 (.tmp 4), 126, "ref.go:135", #[], none⟩) rfl (fun K hK => ?_) (AllReady.cons (o := ⟨some 19, .call { callee := .value (.func 86), args := #[.tmp 17, .tmp 18], argTypes := #[27, 3] }, 127, "ref.go:135", #[{ on := 1, ground := .data }, { on := 2, ground := .data }], none⟩) rfl (fun K hK => ?_) AllReady.nil)
      refine step_load_mid (by rfl) 126 (.tmp 4) (by rfl) D 0 (by rfl) _ _ HS1.out.range Tryd.underlying126 rfl (by rw [List.length_map, HSL.out]; kernel_rfl) ?_
      refine hK _ _ ?_
      clear hK K
      go_simp
      refine wpAny_ready (rs := [3]) (by kernel_rfl) (by simp) ?_
      refine AllReady.cons (o := ⟨some 19, .call { callee := .value (.func 86), args := #[.tmp 17, .tmp 18], argTypes := #[27, 3] }, 127, "ref.go:135", #[{ on := 1, ground := .data }, { on := 2, ground := .data }], none⟩) rfl (fun K hK => ?_) AllReady.nil
      go_simp
      refine (HAT.out _ HS1.out.rd).mono ?_
      rintro e w4 ⟨rfl, hk4⟩
      have HS2 := Lib.hid (HS1.out.kp hk4)
      clear hk4 HS1
      go_simp
      refine hK _ _ ?_
      clear hK K
      go_simp
      rotate_left
      go_simp
      refine (HAT.out _ HS1.out.rd).mono ?_
      rintro e w4 ⟨rfl, hk4⟩
      have HS2 := Lib.hid (HS1.out.kp hk4)
      clear hk4 HS1
      go_simp
      refine hK _ _ ?_
      clear hK K
      go_simp
      refine wpAny_ready (rs := [0]) (by kernel_rfl) (by simp) ?_
      refine AllReady.cons (o := ⟨some 16, .load 126 (.tmp 4), 126, "ref.go:135", #[], none⟩) rfl (fun K hK => ?_) AllReady.nil
      refine step_load_mid (by rfl) 126 (.tmp 4) (by rfl) D 0 (by rfl) _ _ HS2.out.range Tryd.underlying126 rfl (by rw [List.length_map, HSL.out]; kernel_rfl) ?_
      refine hK _ _ ?_
      clear hK K
      go_simp
      all_goals
        refine wpAny_ready (rs := [4]) (by kernel_rfl) (by simp) ?_
        refine AllReady.cons (o := ⟨some 20, .call { callee := .value (.func 85), args := #[.tmp 16, .tmp 19], argTypes := #[126, 127] }, 126, "ref.go:135", #[{ on := 0, ground := .data }, { on := 3, ground := .data }, { on := 3, ground := .chain }], none⟩) rfl (fun K hK => ?_) AllReady.nil
        go_simp
        refine (HBL.out _ HS2.out.k).mono ?_
        rintro e w5 ⟨rfl, hk5⟩
        have HS3 := Lib.hid (HS2.out.kp hk5)
        clear hk5 HS2
        go_simp
        refine hK _ _ ?_
        clear hK K
        go_simp
        refine wpAny_ready (rs := [5]) (by kernel_rfl) (by simp) ?_
        refine AllReady.cons (o := ⟨none, .store 126 (.tmp 4) (.tmp 20), 0, "ref.go:135", #[{ on := 4, ground := .data }, { on := 4, ground := .chain }, { on := 0, ground := .phase }, { on := 1, ground := .phase }, { on := 2, ground := .phase }, { on := 3, ground := .phase }, { on := 4, ground := .phase }], none⟩) rfl (fun K hK => ?_) AllReady.nil
        refine step_store_mid (by rfl) 126 (.tmp 4) (.tmp 20) (by rfl) D 0 (u32s st2) (by rfl) (by rfl) (HS3.out.there _ (by rw [u32s_size, HSL2.out, HSL.out]; exact Nat.le_refl _)) (by rw [u32s_size, HSL2.out]; kernel_rfl) (one_u32s _) ?_
        have HS4 := Lib.hid (HS3.out.set st2 (by rw [HSL2.out, HSL.out]))
        generalize w5.setCells D 0 (u32s st2).toList = w6 at *
        clear HS3
        refine hK _ _ ?_
        clear hK K
        go_simp
        refine wpAny_done (by kernel_rfl) ?_ _
        go_wp2_with fail
        go_roundw
        case rel => exact ⟨k + 1, by omega, by go_num, by rw [HE2.out]; exact HS4⟩
        case measure => simp [intOf]; omega
    · have hkq : k = q := by omega
      subst hkq
      have HSL : Hid ((cmpN kk bg l k).length = 8) := Lib.hid (by rw [cmpN_len]; exact HT.out.hb)
      have HB := Lib.hid (fun W => bytesOf_any (cmpN kk bg l k) HSL.out (w32_cmpN HT.out.b32 k) W)
      generalize cmpN kk bg l k = st at *
      rw [← HR.out] at HB
      have HZS : Hid ((u32s st).size = 8) := Lib.hid (by rw [u32s_size, HSL.out])
      have HZ : Hid ((u8s res).size = 32) := Lib.hid (by rw [HR.out, u8s_size, outw_len])
      go_wp2_with (first
        | (refine wpList_load_row (by rfl) 126 (.tmp 4) (by rfl) D (by rfl) 126 (u32s st) (0, 0) _ HS.out.row Tryd.underlying126 rfl (by rw [HZS.out]; kernel_rfl) ?_)
        | (go_at_call 87; go_must (refine (HB.out _).mono ?_; rintro e w4 ⟨rfl, hk4⟩; have HS2 := Lib.hid (HS.out.kp hk4); clear hk4))
        | (refine wpList_store_row (by rfl) 22 (.tmp 2) (.tmp 22) (by rfl) A (u8s res) (by rfl) (by rfl) 22 _ HS2.out.box (by rw [HZ.out]; kernel_rfl) (by rw [HZ.out, u8s_size, List.length_replicate]) (one_u8s _) ?_))
      have r2 := setRow_heap w4 A _ (u8s res) _ _ HS2.out.box
      have r1 := HS2.out.k.trans (kp_setRow w4 A (u8s res)) (fun m hm => by rw [List.mem_singleton] at hm; subst hm; exact .inr HS2.out.hA)
      exact bodyPost_ret (results_cell_row rfl _ _ A 22 _ (0, 0) _ rfl r2 Tryd.underlying22 rfl (by rw [HZ.out]; kernel_rfl)) rfl ⟨rfl, r1⟩
end Go.Proofs.YtkceaepbjdfccaaDoor
