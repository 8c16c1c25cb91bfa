/-
(*sha.Hash).Write.
-/
import Derived.Test.YtkceaepbjdfccaaDoorSha4
import Derived.Deep.RegionHeld3
namespace Go.Proofs.YtkceaepbjdfccaaDoor
open Go.RowKit
def sliceLen : Value → Nat
  | .slice _ n _ => n
  | _ => 0
theorem slice64 (W : World) (g b o : Nat) (ho : o < 64) :
    (Instr.sliceAt 127 (.pointer (some ⟨g, b, none⟩)) (some (.int .i64 (o : Int))) none none).run Tryd.prog W = .ok (.slice (some ⟨g, b + o, none⟩) (64 - o) (64 - o)) W := by
  have ht : Tryd.prog.underlying 127 = some (.array (Tryd.prog.arrayLen 127) (Tryd.prog.elem 127)) := by kernel_rfl
  have hl : Tryd.prog.arrayLen 127 = 64 := by kernel_rfl
  have hs : (sizeOf (Tryd.prog.elem 127)).run Tryd.prog W = .ok 1 W := by kernel_rfl
  rw [run_sliceAt_array_l W _ _ ht .i64 (o : Int) (by omega) (by rw [hl]; omega), hs, hl]
  simp only [Result.andThen_ok, slicedAt, Int.toNat_natCast, Nat.mul_one]
  rw [if_neg (by omega), Addr.add_mid]
theorem Rd.kpn {w w' : World} {L : List Nat} {v : Value} {xs : List Value} (h : Rd w v xs) (k : Kp L w w') (hn : xs ≠ [] → ∀ b, v.ownBlock = some b → b ∉ L) : Rd w' v xs := by
  by_cases hx : xs = []
  · subst hx
    obtain ⟨ao, cap, rfl, h1, h2, _⟩ := h
    exact ⟨ao, cap, rfl, h1, h2, fun a _ i u hu => by cases hu⟩
  · exact h.kp k (hn hx)
theorem Rd.lt {w : World} {v : Value} {xs : List Value} (h : Rd w v xs) (hx : xs ≠ []) {b : Nat} (hb : v.ownBlock = some b) : b < w.heap.size := by
  obtain ⟨ao, cap, rfl, h1, h2, h3⟩ := h
  cases ao with
  | none => cases hb
  | some a =>
    obtain ⟨x, xs, rfl⟩ := List.exists_cons_of_ne_nil hx
    have h4 := World.block_lt_of_cell? w _ (h3 a rfl 0 x rfl)
    rw [Addr.add_block] at h4
    simp only [Value.ownBlock, Option.some.injEq] at hb
    omega
theorem Rd.src {w : World} {ad : Addr} {n cap : Nat} {xs : List Value} (h : Rd w (.slice (some ad) n cap) xs) : ∀ i u, xs[i]? = some u → w.cell? (ad.add i) = some u := by
  obtain ⟨ao, c, he, h1, h2, h3⟩ := h
  simp only [Value.slice.injEq] at he
  obtain ⟨rfl, rfl, rfl⟩ := he
  exact h3 ad rfl
theorem run_sub_from {P : Program} {t e : TypeId} {z : Value} {bytes : Nat} (E : El P t e z bytes) (ao : Option Addr) (n cap J : Nat) (hJ : J ≤ n) :
    ∃ ao' cap', (∀ W, (Instr.sliceAt t (.slice ao n cap) (some (.int .i64 (J : Int))) none none).run P W = .ok (.slice ao' (n - J) cap') W) ∧ ∀ w xs, Rd w (.slice ao n cap) xs → Rd w (.slice ao' (n - J) cap') (xs.drop J) := by
  refine ⟨if cap = J then ao else ao.map (·.add (J * 1)), cap - J, fun W => ?_, fun w xs h => ?_⟩
  rotate_left
  · have hn := h.len
    have hr := h.cut J n hJ (by omega) 1 rfl
    rw [List.take_of_length_le (by omega)] at hr
    exact hr
  · have ht' : P.underlying t = some (.slice (P.elem t)) := by rw [E.elem]; exact E.ht
    rw [run_sliceAt_slice W t _ _ _ _ ht', run_slice_l W t ao n cap ht' .i64 (J : Int) (by omega) (by omega), E.elem, E.szof]
    rfl
theorem Rd.le {w : World} {ao : Option Addr} {n cap : Nat} {xs : List Value} (h : Rd w (.slice ao n cap) xs) : n ≤ cap := by
  obtain ⟨_, _, he, hc, _⟩ := h
  simp only [Value.slice.injEq] at he
  omega
/-- a load of many cells as one step of a drawn region -/
theorem step_load_mid {P : Program} {ops : Array Oper} {w : World} {K : Act → World → Prop} {Q : Exit → Act → World → Prop} {F : Prop} {a : Act} {o : Oper} (hgd : o.guard = none) (ty : TypeId) (x : Operand) (ho : o.op = .load ty x)
    (b off : Nat) (hx : a.eval x = .pointer (some ⟨b, off, none⟩)) (cs : List Value) (d : TypeDesc) (hc : w.rangeAt b off cs)
    (hu : P.underlying ty = some d) (hd : d.isRow = true) (hi : (P.info? ty).map (·.size) = some cs.length) (h : K (a.put o.dst (.agg cs.toArray)) w) : if Region.wanted o (yielded ops a.tmps) = true then Oper.wp P o a w K Q else F := by
  rw [if_pos (by simp [Region.wanted, hgd])]
  exact wp_load_mid ty x ho b off hx cs d hc hu hd hi h
/-- a store of many cells as one step of a drawn region -/
theorem step_store_mid {P : Program} {ops : Array Oper} {w : World} {K : Act → World → Prop} {Q : Exit → Act → World → Prop} {F : Prop} {a : Act} {o : Oper} (hgd : o.guard = none) (ty : TypeId) (x y : Operand) (ho : o.op = .store ty x y)
    (b off : Nat) (cells : Array Value) (hx : a.eval x = .pointer (some ⟨b, off, none⟩)) (hy : a.eval y = .agg cells)
    (ht : w.there b off cells.size) (hi : (P.info? ty).map (·.size) = some cells.size) (h1 : cells.all (·.oneCell') = true)
    (h : K (a.put o.dst undef) (w.setCells b off cells.toList)) : if Region.wanted o (yielded ops a.tmps) = true then Oper.wp P o a w K Q else F := by
  rw [if_pos (by simp [Region.wanted, hgd])]
  exact wp_store_mid ty x y ho b off cells hx hy ht hi h1 h
theorem HashAt.there {w : World} {g : Nat} {h : Hs} (H : HashAt w g h) (n : Nat) (hn : n ≤ 73) : w.there g 0 n := fun j hj => by
  refine ⟨?_, by rw [Nat.zero_add]; exact H.free j⟩
  rw [Nat.zero_add, cell_of_row w g j _ _ _ H.hp, List.getElem?_toArray, List.getElem?_eq_getElem (by rw [Hs.cl_len H.ok]; omega)]
  rfl
/-- bytes copied into a Hash's block -/
theorem wpl_lay {P : Program} {w : World} {ops : Array Oper} {rest : List Oper} {op : Oper} {a : Act} {Q : Exit → Act → World → Prop} (hgd : op.guard = none) (d s : Operand) (dT sT : TypeId)
    (ho : op.op = .call { callee := .builtin .copy, args := #[d, s], argTypes := #[dT, sT] }) (elem : TypeId) (hu : P.underlying dT = some (.slice elem)) (hsz : (P.info? elem).map (·.size) = some 1)
    (g o m cp : Nat) (ad : Addr) (hd : a.eval d = .slice (some ⟨g, 8 + o, none⟩) (64 - o) (64 - o)) (hs : a.eval s = .slice (some ad) m cp) (H : Hs) (hH : HashAt w g H) (l : List Int) (hl : Rd w (.slice (some ad) m cp) (iv l)) (hoo : o < 64)
    (h : ∀ w', HashAt w' g ⟨H.st, ovl H.bl o (l.take (min m (64 - o))), H.n⟩ → Kp [g] w w' → wpList P ops Q rest (a.put op.dst (.int .i64 ((min m (64 - o) : Nat) : Int))) w') : wpList P ops Q (op :: rest) a w := by
  have hlen := hl.len
  rw [iv_length] at hlen
  have hcl : (l.take (min m (64 - o))).length = min m (64 - o) := by rw [List.length_take]; omega
  have hv : (iv (l.take (min m (64 - o)))).length = min m (64 - o) := by rw [iv_length]; exact hcl
  refine wpList_copy_own hgd d s dT sT ho elem hu hsz g (8 + o) (64 - o) (64 - o) ad m cp hd hs H.cl.toArray _ hH.hp (iv (l.take (min m (64 - o)))) hv (fun i u hu => ?_) ?_ (iv_one _) ?_
  · refine hl.src i u ?_
    unfold iv at hu ⊢
    rw [List.map_take] at hu
    rw [List.getElem?_take] at hu
    split at hu
    · exact hu
    · cases hu
  · rw [hv, List.size_toArray, Hs.cl_len hH.ok]; omega
  · rw [show goInt (iv (l.take (min m (64 - o)))).length = .int .i64 ((min m (64 - o) : Nat) : Int) by rw [hv]; rfl]
    exact h _ (hH.lay o _ (by rw [hcl]; omega)) (kp_setRow _ _ _)
theorem el_byte : El Tryd.prog 27 5 (.int .u8 0) 1 := ⟨Tryd.underlying27, by kernel_rfl, rfl⟩
set_option maxRecDepth 100000 in
set_option maxHeartbeats 1000000 in
theorem write_any (kk : List Int) (hkk : kk.length = 64) (g : Nat) (hs : Hs) (v : Value) (l : List Int) (w : World) {T : TypeId} (fr : Nat × Nat) (hg : w.heap[1]? = some (.cells (u32s kk) T fr))
    (hg1 : g ≠ 1) (hH : HashAt w g hs) (hv : Rd w v (iv l)) (hne : l ≠ [] → ∀ b, v.ownBlock = some b → b ≠ g) (hn : hs.n + l.length ≤ 4611686018427387904) :
    Calls Tryd.prog 35 #[.pointer (some ⟨g, 0, none⟩), v] w fun e w' => e = .returned (.tuple #[]) ∧ Kp [g] w w' ∧ HashAt w' g (hs.puts kk l) := by
  obtain ⟨ao, cap, rfl⟩ := hv.form
  rw [iv_length] at hv hne ⊢
  have HG : Hid (∀ w', Kp [g] w w' → w'.heap[1]? = some (.cells (u32s kk) T fr)) := Lib.hid (fun w' k => k.heap hg (by simpa using hg1.symm))
  have HV : Hid (∀ w', Kp [g] w w' → Rd w' (.slice ao l.length cap) (iv l)) := Lib.hid (fun w' k => hv.kpn k (fun hl b hb => by simpa using hne (fun e => hl (by rw [e]; rfl)) b hb))
  have HN := Lib.hid hn
  have HK := Lib.hid hkk
  have H0 := Lib.hid hH
  clear hg hg1 hne hn hkk hv hH
  go_enter Tryd.func35, Tryd.ntmps35
  go_wp2_with fail
  go_loopw [1] (fun v wr => ∃ (j m : Nat) (a : Option Addr) (c : Nat), v = .slice a m c ∧ Hid (j + m = l.length ∧ (∀ w', Kp [g] w w' → Rd w' (.slice a m c) (iv (l.drop j))) ∧ Kp [g] w wr ∧ HashAt wr g (hs.puts kk (l.take j)))) (fun v _ => sliceLen v)
  case atStart => exact ⟨0, _, _, _, rfl, Lib.hid ⟨by omega, HV.out, Kp.refl _ _, H0.out⟩⟩
  case round =>
    obtain ⟨j, m, a, c, rfl, HR⟩ := hrel
    by_cases hm : 0 < m
    · obtain ⟨N, hN⟩ : ∃ N, N = (hs.puts kk (l.take j)).n := ⟨_, rfl⟩
      have hc : wr.cell? ⟨g, 72, none⟩ = some (.int .i64 (N : Int)) := by rw [hN]; exact HR.out.2.2.2.num
      have hNb : N + m ≤ 4611686018427387904 := by
        have h1 := HN.out
        have h2 := HR.out.1
        rw [hN, Hs.puts_n, List.length_take]; omega
      have HNN := Lib.hid hN
      clear hN
      go_wp2_with fail
      obtain ⟨o, ho⟩ : ∃ o, o = N % 64 := ⟨_, rfl⟩
      have t0 : (N : Int).tmod 64 = (o : Int) := by rw [ho, Int.tmod_eq_emod_of_nonneg (by omega)]; omega
      have t1 : (0 : Int) ≤ (o : Int) := by omega
      have t2 : (o : Int) < 64 := by omega
      have HOO := Lib.hid ho
      clear ho
      refine wp_region_still_tail 10 (by kernel_rfl) (by kernel_rfl) ?_
      simp only [List.take_succ_cons, List.take_zero, List.drop_succ_cons, List.drop_zero]
      have e0 : wr.drew.cell? ⟨g, 72, none⟩ = some (.int .i64 (N : Int)) := hc
      obtain ⟨ad, hadd⟩ : ∃ ad, a = some ad := by
        have h1 := HR.out.1
        obtain ⟨b, off, ha, _⟩ := (HR.out.2.1 wr HR.out.2.2.1).at hm
        exact ⟨_, ha⟩
      subst hadd
      have HZ : Hid (HashAt wr.drew g (hs.puts kk (l.take j)) ∧ Rd wr.drew (.slice (some ad) m c) (iv (l.drop j)) ∧ Kp [g] w wr.drew) := Lib.hid ⟨HR.out.2.2.2.drew, (HR.out.2.1 wr HR.out.2.2.1).drew, HR.out.2.2.1.drew⟩
      change wpStill _ _ wr.drew (fun a' => wpList _ _ _ _ a' wr.drew) _ _
      generalize wr.drew = wy at *
      have hsl := fun W => slice64 W g 8 o (by omega)
      repeat still_step
      refine wpStill_nil ?_
      refine wpl_lay rfl (.tmp 16) (.tmp 17) 27 27 rfl 5 Tryd.underlying27 (by kernel_rfl) g o m c ad (by rfl) (by rfl) _ HZ.out.1 _ HZ.out.2.1 (by omega) ?_
      intro w1 hH1 hK1
      obtain ⟨k, hk⟩ : ∃ k, k = min m (64 - o) := ⟨_, rfl⟩
      rw [← hk] at hH1 ⊢
      rw [← HNN.out] at hH1
      have k0 : 0 < k := by omega
      have k1 : k ≤ m := by omega
      have k2 : o + k ≤ 64 := by omega
      have k3 : o + k = 64 ∨ k = m := by omega
      have HPT : Hid (hs.puts kk (l.take (j + k)) = ⟨if (N + k) % 64 = 0 then comp kk (hs.puts kk (l.take j)).st (ovl (hs.puts kk (l.take j)).bl o ((l.drop j).take k)) else (hs.puts kk (l.take j)).st, ovl (hs.puts kk (l.take j)).bl o ((l.drop j).take k), N + k⟩) := Lib.hid (by
        have hlen := HZ.out.2.1.len
        rw [iv_length] at hlen
        have hl2 : ((l.drop j).take k).length = k := by rw [List.length_take]; omega
        rw [List.take_add, Hs.puts_append, Hs.puts_chunk kk _ _ HZ.out.1.ok.2 (by rw [hl2, ← HNN.out, ← HOO.out]; exact k2) (by rw [hl2]; exact k0), hl2, ← HNN.out, ← HOO.out])
      obtain ⟨ao', c', hsb, hrd⟩ := run_sub_from el_byte (some ad) m c k k1
      have HRD := Lib.hid hrd
      have HH1 := Lib.hid hH1
      have HK1 := Lib.hid (HZ.out.2.2.trans hK1 (fun m hm => .inl hm))
      have d0 : w1.cell? ⟨g, 72, none⟩ = some (.int .i64 (N : Int)) := by exact hH1.num
      have d1 : w1.frozen? ⟨g, 72, none⟩ = false := hH1.free 72
      generalize (hs.puts kk (l.take j)).st = S at *
      generalize ovl (hs.puts kk (l.take j)).bl o ((l.drop j).take k) = BL at *
      have HH2 : Hid (HashAt (w1.setCell ⟨g, 72, none⟩ (.int .i64 ((N : Int) + (k : Int)))) g ⟨S, BL, N + k⟩ ∧ Kp [g] w (w1.setCell ⟨g, 72, none⟩ (.int .i64 ((N : Int) + (k : Int))))) := Lib.hid ⟨HH1.out.setNum (N + k), HK1.out.setCell (.inl (by simp)) _⟩
      clear hk k3 hrd hH1 hK1 e0 hsl t0 t1 t2 hc
      by_cases hz : (N + k) % 64 = 0
      · have hzb : (((N : Int) + (k : Int)) % 64 == 0) = true := by rw [beq_iff_eq]; omega
        have HPT2 : Hid (hs.puts kk (l.take (j + k)) = ⟨comp kk S BL, BL, N + k⟩) := Lib.hid (by rw [HPT.out, if_pos hz])
        have HZB := Lib.hid hz
        clear hz HPT
        go_wp2_with fail
        clear hsb d0 d1 hzb
        generalize w1.setCell ⟨g, 72, none⟩ (.int .i64 ((N : Int) + (k : Int))) = w2 at *
        clear HH1 HK1
        have HH3 := Lib.hid (And.intro HH2.out.1.drew HH2.out.2.drew)
        clear HH2
        refine wp_region_any (by kernel_rfl) ?_
        change wpAny _ _ _ _ _ _ _ w2.drew
        generalize w2.drew = w3 at *
        refine wpAny_take (i := 0) (v := .pointer (some ⟨g, 0, none⟩)) rfl (by kernel_rfl) (by kernel_rfl) (by kernel_rfl) (fun _ _ _ h => h) (Or.inl ⟨by rfl, by intro w; go_simp⟩) ?_
        refine wpAny_take (i := 1) (v := .pointer (some ⟨g, 0, none⟩)) rfl (by kernel_rfl) (by kernel_rfl) (by kernel_rfl) (fun _ _ _ h => h) (Or.inl ⟨by rfl, by intro w; go_simp⟩) ?_
        refine wpAny_take (i := 2) (v := .pointer (some ⟨g, 0, none⟩)) rfl (by kernel_rfl) (by kernel_rfl) (by kernel_rfl) (fun _ _ _ h => h) (Or.inl ⟨by rfl, by intro w; go_simp⟩) ?_
        refine wpAny_take (i := 3) (v := .pointer (some ⟨g, 0, none⟩)) rfl (by kernel_rfl) (by kernel_rfl) (by kernel_rfl) (fun _ _ _ h => h) (Or.inl ⟨by rfl, by intro w; go_simp⟩) ?_
        refine wpAny_take (i := 5) (v := .pointer (some ⟨g, 0, none⟩)) rfl (by kernel_rfl) (by kernel_rfl) (by kernel_rfl) (fun _ _ _ h => h) (Or.inl ⟨by rfl, by intro w; go_simp⟩) ?_
        refine wpAny_take (i := 6) (v := .pointer (some ⟨g, 0, none⟩)) rfl (by kernel_rfl) (by kernel_rfl) (by kernel_rfl) (fun _ _ _ h => h) (Or.inl ⟨by rfl, by intro w; go_simp⟩) ?_
        refine wpAny_take (i := 7) (v := .pointer (some ⟨g, 8, none⟩)) rfl (by kernel_rfl) (by kernel_rfl) (by kernel_rfl) (fun _ _ _ h => h) (Or.inl ⟨by rfl, by intro w; go_simp⟩) ?_
        go_simp
        refine wpAny_ready (rs := [4, 8]) (by kernel_rfl) (by simp) ?_
        refine AllReady.cons (o := ⟨some 40, .load 126 (.tmp 39), 126, "sha.go:66", #[{ on := 3, ground := .data }], none⟩) rfl (fun K hK => ?_) (AllReady.cons (o := ⟨some 44, .load 127 (.tmp 43), 127, "sha.go:66", #[{ on := 7, ground := .data }], none⟩) rfl (fun K hK => ?_) AllReady.nil)
        refine step_load_mid (by rfl) 126 (.tmp 39) (by rfl) g 0 (by rfl) _ _ HH3.out.1.st Tryd.underlying126 rfl (by rw [List.length_map, HH3.out.1.ok.1]; kernel_rfl) ?_
        refine hK _ _ ?_
        clear hK K
        go_simp
        refine wpAny_ready (rs := [8]) (by kernel_rfl) (by simp) ?_
        refine AllReady.cons (o := ⟨some 44, .load 127 (.tmp 43), 127, "sha.go:66", #[{ on := 7, ground := .data }], none⟩) rfl (fun K hK => ?_) AllReady.nil
        refine step_load_mid (by rfl) 127 (.tmp 43) (by rfl) g 8 (by rfl) _ _ HH3.out.1.bl Tryd.underlying127 rfl (by rw [List.length_map, HH3.out.1.ok.2]; kernel_rfl) ?_
        refine hK _ _ ?_
        clear hK K
        go_simp
        rotate_left
        refine step_load_mid (by rfl) 127 (.tmp 43) (by rfl) g 8 (by rfl) _ _ HH3.out.1.bl Tryd.underlying127 rfl (by rw [List.length_map, HH3.out.1.ok.2]; kernel_rfl) ?_
        refine hK _ _ ?_
        clear hK K
        go_simp
        refine wpAny_ready (rs := [4]) (by kernel_rfl) (by simp) ?_
        refine AllReady.cons (o := ⟨some 40, .load 126 (.tmp 39), 126, "sha.go:66", #[{ on := 3, ground := .data }], none⟩) rfl (fun K hK => ?_) AllReady.nil
        refine step_load_mid (by rfl) 126 (.tmp 39) (by rfl) g 0 (by rfl) _ _ HH3.out.1.st Tryd.underlying126 rfl (by rw [List.length_map, HH3.out.1.ok.1]; kernel_rfl) ?_
        refine hK _ _ ?_
        clear hK K
        go_simp
        all_goals
          refine wpAny_ready (rs := [9]) (by kernel_rfl) (by simp) ?_
          refine AllReady.cons (o := ⟨some 45, .call { callee := .value (.func 59), args := #[.tmp 40, .tmp 44], argTypes := #[126, 127] }, 126, "sha.go:66", #[{ on := 4, ground := .data }, { on := 8, ground := .data }], none⟩) rfl (fun K hK => ?_) AllReady.nil
          go_simp
          refine (compress_any S BL kk HH3.out.1.ok.1 HH3.out.1.ok.2 HK.out _ fr (HG.out _ HH3.out.2)).mono ?_
          rintro e w4 ⟨rfl, hk4⟩
          have HH4 := Lib.hid (And.intro (HH3.out.1.kp hk4 (by simp)) (HH3.out.2.trans0 hk4))
          clear hk4 HH3
          go_simp
          refine hK _ _ ?_
          clear hK K
          go_simp
          refine wpAny_take (i := 10) (v := .pointer (some ⟨g, 0, none⟩)) rfl (by kernel_rfl) (by kernel_rfl) (by kernel_rfl) (fun _ _ _ h => h) (Or.inl ⟨by rfl, by intro w; go_simp⟩) ?_
          refine wpAny_take (i := 11) (v := .pointer (some ⟨g, 0, none⟩)) rfl (by kernel_rfl) (by kernel_rfl) (by kernel_rfl) (fun _ _ _ h => h) (Or.inl ⟨by rfl, by intro w; go_simp⟩) ?_
          go_simp
          refine wpAny_ready (rs := [12]) (by kernel_rfl) (by simp) ?_
          refine AllReady.cons (o := ⟨none, .store 126 (.tmp 47) (.tmp 45), 0, "sha.go:66", #[{ on := 11, ground := .data }, { on := 9, ground := .data }, { on := 9, ground := .chain }, { on := 0, ground := .phase }, { on := 1, ground := .phase }, { on := 2, ground := .phase }, { on := 3, ground := .phase }, { on := 4, ground := .phase }, { on := 5, ground := .phase }, { on := 6, ground := .phase }, { on := 7, ground := .phase }, { on := 8, ground := .phase }, { on := 9, ground := .phase }], none⟩) rfl (fun K hK => ?_) AllReady.nil
          refine step_store_mid (by rfl) 126 (.tmp 47) (.tmp 45) (by rfl) g 0 (u32s (comp kk S BL)) (by rfl) (by rfl) (HH4.out.1.there _ (by rw [u32s_size, comp_len, HH4.out.1.ok.1]; omega)) (by rw [u32s_size, comp_len, HH4.out.1.ok.1]; kernel_rfl) (one_u32s _) ?_
          have HH5 := Lib.hid (And.intro (HH4.out.1.setSt (comp kk S BL) (by rw [comp_len]; exact HH4.out.1.ok.1)) (HH4.out.2.trans (kp_setCells g (u32s (comp kk S BL)).toList 0 w4) (fun m hm => .inl hm)))
          generalize w4.setCells g 0 (u32s (comp kk S BL)).toList = w5 at *
          clear HH4
          refine hK _ _ ?_
          clear hK K
          go_simp
          refine wpAny_done (by kernel_rfl) ?_ _
          go_wp2_with fail
          go_roundw
          case rel =>
            refine ⟨j + k, m - k, ao', c', rfl, Lib.hid ⟨by have := HR.out.1; omega, fun w' kw => ?_, HH5.out.2, ?_⟩⟩
            · rw [← List.drop_drop]
              have h := HRD.out w' _ (HR.out.2.1 w' kw)
              unfold iv at h ⊢
              rw [List.map_drop]
              exact h
            · rw [HPT2.out]; exact HH5.out.1
          case measure => simp [sliceLen]; omega
      · have hzb : (((N : Int) + (k : Int)) % 64 == 0) = false := by rw [beq_eq_false_iff_ne]; omega
        have HPT2 : Hid (hs.puts kk (l.take (j + k)) = ⟨S, BL, N + k⟩) := Lib.hid (by rw [HPT.out, if_neg hz])
        clear hz HPT
        go_wp2_with fail
        go_roundw
        case rel =>
          refine ⟨j + k, m - k, ao', c', rfl, Lib.hid ⟨by have := HR.out.1; omega, fun w' kw => ?_, HH2.out.2, ?_⟩⟩
          · rw [← List.drop_drop]
            have h := HRD.out w' _ (HR.out.2.1 w' kw)
            unfold iv at h ⊢
            rw [List.map_drop]
            exact h
          · rw [HPT2.out]; exact HH2.out.1
        case measure => simp [sliceLen]; omega
    · have hm0 : m = 0 := by omega
      subst hm0
      go_wp2_with fail
      go_end0
      have h1 := HR.out.1
      have h2 := HR.out.2.2
      rw [List.take_of_length_le (by omega)] at h2
      exact ⟨rfl, h2.1, h2.2⟩
end Go.Proofs.YtkceaepbjdfccaaDoor
