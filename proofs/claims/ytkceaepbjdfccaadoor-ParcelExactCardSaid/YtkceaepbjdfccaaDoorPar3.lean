/-
parcel.Split: the writer's calls as it makes them; the walk.
-/
import Derived.Test.YtkceaepbjdfccaaDoorPar2
namespace Go.Proofs.YtkceaepbjdfccaaDoor
open Go.RowKit
theorem el_byts : El Tryd.prog 50 27 (.slice none 0 0) 24 := ⟨Tryd.underlying50, by kernel_rfl, rfl⟩
/-- a writer that was made behind wr, and has met no fault -/
structure WS (wr W : World) (p : Nat) (ov : Value) (l : List UInt8) : Prop where
  k : Kp [] wr W
  w : Wr W wr.heap.size p 512 ov (l, 0)
theorem WS.put {wr W w' : World} {p : Nat} {ov : Value} {l m : List UInt8} {r : Ending} (h : WS wr W p ov l) (hp : Put wr.heap.size p 512 ov (putL 512 (l, 0) 0 m) W r w') (hl : l.length + m.length ≤ 512) : ∃ ov', r = .returned (.tuple #[]) ∧ WS wr w' p ov' (l ++ m) := by
  obtain ⟨ov', h1, h2, h3, h4⟩ := hp
  rw [putL_ok _ _ _ (by omega)] at h2
  refine ⟨ov', h1, h.k.trans h3 (fun b hb => .inr ?_), h2⟩
  rcases List.mem_cons.1 hb with rfl | hb
  · exact h.w.le
  · exact (h.w.own.lt (mem_ob.1 hb)).1
theorem ws_u8 {wr W : World} {p : Nat} {ov : Value} {l : List UInt8} (n : Int) (h : WS wr W p ov l) (hn : 0 ≤ n ∧ n < 256) (hl : l.length + 1 ≤ 512) :
    Calls Tryd.prog 45 #[.pointer (some ⟨p, 0, none⟩), .int .i64 n] W fun e w' => ∃ ov', e = .returned (.tuple #[]) ∧ WS wr w' p ov' (l ++ [lo8 n]) := by
  have e : withinE n 256 = 0 := by unfold withinE; rw [if_neg (by omega)]
  have := wU8_any wr.heap.size p 512 ov (l, 0) n W h.w h.k.size
  rw [e] at this
  exact this.mono fun r w' hp => h.put hp (by simpa using hl)
theorem ws_u32 {wr W : World} {p : Nat} {ov : Value} {l : List UInt8} (n : Int) (h : WS wr W p ov l) (h0 : 0 ≤ n) (h1 : n < 4294967296) (hl : l.length + 4 ≤ 512) :
    Calls Tryd.prog 46 #[.pointer (some ⟨p, 0, none⟩), .int .u32 n] W fun e w' => ∃ ov', e = .returned (.tuple #[]) ∧ WS wr w' p ov' (l ++ be32 n) :=
  (wU32_any wr.heap.size p 512 ov (l, 0) n h0 h1 W h.w h.k.size).mono fun r w' hp => h.put hp (by simpa [be32] using hl)
theorem ws_fixed {wr W : World} {p : Nat} {ov : Value} {l lx ly : List UInt8} {x y : Value} (h : WS wr W p ov l) (hx : ∀ w', Kp [] wr w' → Rd w' x (bv lx)) (hy : ∀ w', Kp [] wr w' → Rd w' y (bv ly)) (hl : l.length + (lx.length + ly.length) ≤ 512) :
    Calls Tryd.prog 47 #[.pointer (some ⟨p, 0, none⟩), .slice (some ⟨W.heap.size, 0, none⟩) 2 2] (W.alloc (.cells #[x, y] 27)) fun e w' => ∃ ov', e = .returned (.tuple #[]) ∧ WS wr w' p ov' (l ++ (lx ++ ly)) := by
  have k0 : Kp [] W (W.alloc (.cells #[x, y] 27)) := (Kp.refl [] W).alloc _
  have h' : WS wr (W.alloc (.cells #[x, y] 27)) p ov l := ⟨h.k.trans0 k0, h.w.kp0 k0⟩
  have hL : ∀ w', Kp (p :: ob ov) (W.alloc (.cells #[x, y] 27)) w' → Kp [] wr w' := fun w' k => h'.k.trans k (fun b hb => .inr (by
    rcases List.mem_cons.1 hb with rfl | hb
    · exact h.w.le
    · exact (h.w.own.lt (mem_ob.1 hb)).1))
  have hv : Parts (p :: ob ov) (W.alloc (.cells #[x, y] 27)) (.slice (some ⟨W.heap.size, 0, none⟩) 2 2) [lx, ly] :=
    parts2 (T := 27) (heap_alloc_new W _) (h.w.lt (Nat.le_refl _)) (fun w' k => hx w' (hL w' k)) (fun w' k => hy w' (hL w' k))
  have hf : [lx, ly].flatten = lx ++ ly := by simp
  have := wFixed_any wr.heap.size p 512 ov (l, 0) _ [lx, ly] _ h'.w h'.k.size hv (by simp [flen]; omega) (by simp)
  rw [hf] at this
  exact this.mono fun r w' hp => h'.put hp (by rw [List.length_append]; exact hl)
theorem ws_out {wr W : World} {p : Nat} {ov : Value} {l : List UInt8} (h : WS wr W p ov l) :
    Calls Tryd.prog 48 #[.pointer (some ⟨p, 0, none⟩)] W fun e w' => ∃ g n : Nat, e = .returned (.tuple #[.slice (some ⟨g, 0, none⟩) n n, .int .i64 0]) ∧ Own w' wr.heap.size 5 (.slice (some ⟨g, 0, none⟩) n n) (bv l) ∧ Kp [] wr w' :=
  (out_ok wr.heap.size p 512 ov l W h.w).mono fun r w' hp => by
    obtain ⟨g, h1, h2, h3, h4, h5⟩ := hp
    exact ⟨g, l.length, h1, h2.base h.k.size, h.k.trans0 h5⟩
/-- append of one slice to slices of their own -/
theorem wpl_app_pts {ops : Array Oper} {rest : List Oper} {o : Oper} {a : Act} {Q : Exit → Act → World → Prop} (hgd : o.guard = none) (sl x : Operand)
    (ho : o.op = .call { callee := .builtin .append, args := #[sl, x], argTypes := #[50, 50] })
    {W : World} {B : Nat} {v x' : Value} {ls : List (List UInt8)} {p : List UInt8} (hs : a.eval sl = v) (hx : a.eval x = .slice (some ⟨W.heap.size, 0, none⟩) 1 1) (hP : Pts W B v ls) (hxo : Own W B 5 x' (bv p)) (h1 : x'.oneCell' = true) (hB : B ≤ W.heap.size) (hl : ls.length ≤ 1000)
    (h : ∀ v' w', Pts w' B v' (ls ++ [p]) → Kp v.ownBlock.toList W w' → (∀ b, v.ownBlock = some b → B ≤ b) → wpList Tryd.prog ops Q rest (a.put o.dst v') w') : wpList Tryd.prog ops Q (o :: rest) a (W.alloc (.cells #[x'] 27)) := by
  obtain ⟨vals, h2, h3, h4⟩ := hP
  have k0 : Kp [] W (W.alloc (.cells #[x'] 27)) := (Kp.refl _ _).alloc _
  refine wpl_append el_byts hgd sl x ho hs hx (h2.kp0 k0) (rd_lit1 W 27 x') (fun u hu => by rw [List.mem_singleton] at hu; subst hu; exact h1) (by rw [h3]; simp; omega) (by rw [h3]; simp; omega) (Nat.le_trans hB k0.size) ?_
  intro v' w' ho5 hg5
  obtain ⟨g1, g2⟩ := Pts.app h2 h3 h4 hxo h1 ho5 hg5
  exact h v' w' g1 g2 (fun b hb => (h2.lt hb).1)
/-- what lies where while parts are made -/
structure SP (w wr : World) (M : Nat) (mk : List UInt8) (v : Value) (ls : List (List UInt8)) : Prop where
  k : Kp [] w wr
  hM : w.heap.size ≤ M
  m : wr.heap[M]? = some (.cells (bv mk).toArray 88 (0, 0))
  p : Pts wr w.heap.size v ls
theorem SP.kp {w wr w' : World} {M : Nat} {mk : List UInt8} {v : Value} {ls : List (List UInt8)} (h : SP w wr M mk v ls) (k : Kp [] wr w') : SP w w' M mk v ls := ⟨h.k.trans0 k, h.hM, k.heap h.m (by simp), h.p.kp k⟩
theorem SP.next {w wr u : World} {M : Nat} {mk : List UInt8} {v v9 : Value} {ls ls' : List (List UInt8)} (h : SP w wr M mk v ls) (hk : Kp v.ownBlock.toList wr u) (hb : ∀ b, v.ownBlock = some b → w.heap.size ≤ b) (hp : Pts u w.heap.size v9 ls') : SP w u M mk v9 ls' := by
  refine ⟨h.k.trans hk (fun m hm => .inr (hb m (by rwa [Option.mem_toList] at hm))), h.hM, hk.heap h.m (fun hm => ?_), hp⟩
  rw [Option.mem_toList] at hm
  obtain ⟨vals, h1, _⟩ := h.p
  obtain ⟨cur, hc⟩ := h1.block hm
  rw [h.m] at hc
  simp only [Option.some.injEq, Obj.cells.injEq] at hc
  exact absurd hc.2.1 (by decide)
theorem sp_start {w w1 : World} {mk : List UInt8} {Z : Array Value} (k : Kp [] w w1) : SP w ((w1.alloc (.cells Z 88)).setRow w1.heap.size (bv mk).toArray) w1.heap.size mk (.slice none 0 0) [] := by
  have kB : Kp [] w1 (w1.alloc (.cells Z 88)) := (Kp.refl [] w1).alloc _
  have kC := kp_setRow (w1.alloc (.cells Z 88)) w1.heap.size (bv mk).toArray
  have kD : Kp [] w1 ((w1.alloc (.cells Z 88)).setRow w1.heap.size (bv mk).toArray) := kB.trans kC (fun m hm => by rw [List.mem_singleton] at hm; subst hm; exact .inr (Nat.le_refl _))
  exact ⟨k.trans0 kD, k.size, setRow_heap _ _ _ _ _ _ (heap_alloc_new w1 _), Pts.nil _ _⟩
theorem run_all8 (W : World) (g : Nat) :
    (Instr.sliceAt 88 (.pointer (some ⟨g, 0, none⟩)) none none none).run Tryd.prog W = .ok (.slice (some ⟨g, 0, none⟩) 8 8) W := by
  have ht : Tryd.prog.underlying 88 = some (.array (Tryd.prog.arrayLen 88) (Tryd.prog.elem 88)) := by kernel_rfl
  have hl : Tryd.prog.arrayLen 88 = 8 := by kernel_rfl
  have hs : (sizeOf (Tryd.prog.elem 88)).run Tryd.prog W = .ok 1 W := by kernel_rfl
  rw [run_sliceAt_array_all W _ _ ht, hs, hl]
  rfl
theorem rd_mark {w : World} {b : Nat} {mk : List UInt8} {T : TypeId} (hb : w.heap[b]? = some (.cells (bv mk).toArray T (0, 0))) (hl : mk.length = 8) : Rd w (.slice (some ⟨b, 0, none⟩) 8 8) (bv mk) := by
  have := (own_at hb (by simp [bv_length, hl])).rd
  simpa [bv_length, hl] using this
set_option maxRecDepth 100000 in
set_option maxHeartbeats 2000000 in
theorem split_any (kk bg : List Int) (id : Int) (h0 : 0 ≤ id) (h1 : id < 4294967296) (v : Value) (l : List UInt8) (w : World) (hT : Tabs kk bg w) (hv : Rd w v (bv l)) (hl : l.length ≤ 31808) :
    Calls Tryd.prog 23 #[.int .u32 id, v] w fun e w' => ∃ v', e = .returned (.tuple #[v', .int .i64 0]) ∧ Pts w' w.heap.size v' (partsP kk bg id l (cntP l.length)) ∧ Kp [] w w' := by
  obtain ⟨ao, cap, rfl⟩ := hv.form
  rw [show (bv l).length = l.length from bv_length l] at hv ⊢
  have HT := Lib.hid hT
  have HV := Lib.hid hv
  have HMA := Lib.hid (marked_any kk bg _ l w hT hv (by omega))
  have HML := Lib.hid (mark_len kk bg l)
  have HPA : Hid (∀ i, partP kk bg id l i = [lo8 5] ++ be32 id ++ [lo8 (cntP l.length : Int)] ++ [lo8 (i : Int)] ++ (mark kk bg l ++ contP l i)) := Lib.hid (fun i => rfl)
  have HPS : Hid (∀ n, partsP kk bg id l (n + 1) = partsP kk bg id l n ++ [partP kk bg id l n]) := Lib.hid (partsP_succ kk bg id l)
  have HPL : Hid (∀ n, (partsP kk bg id l n).length = n) := Lib.hid (partsP_len kk bg id l)
  have HMV : Hid ((bv (mark kk bg l)).toArray.size = 8) := Lib.hid (by rw [List.size_toArray, bv_length, mark_len])
  have HMO : Hid ((bv (mark kk bg l)).toArray.all (·.oneCell') = true) := Lib.hid (all_oneCell_toArray (bv_oneCell _))
  have hcs := cntP_small hl
  obtain ⟨c, hc⟩ : ∃ c, c = cntP l.length := ⟨_, rfl⟩
  have HCE := Lib.hid hc
  have HC : Hid (1 ≤ c ∧ c ≤ 64) := Lib.hid (by rw [hc]; exact hcs)
  have HCI : Hid (∀ i, i < c → 497 * i ≤ l.length) := Lib.hid (fun i hi => (cntP_lt (by rw [← hc]; exact hi)).1)
  rw [← hc] at HPA ⊢
  obtain ⟨X, hX⟩ : ∃ X, ((l.length : Int) + 497 - 1) / 497 = X := ⟨_, rfl⟩
  have hq : (1 < X ∧ X = (c : Int)) ∨ (X ≤ 1 ∧ c = 1) := by unfold cntP at hc; omega
  generalize mark kk bg l = mk at *
  generalize hPP : partP kk bg id l = PP at *
  generalize hPS : partsP kk bg id l = PS at *
  have HPS0 : Hid (PS 0 = []) := Lib.hid (by rw [← hPS]; rfl)
  have lI : (l.length : Int) ≤ 31808 := by omega
  have l0 : ¬ (31808 : Int) < (l.length : Int) := by omega
  clear hPP hPS hT hv hcs hc
  rcases hq with ⟨hq1, rfl⟩ | ⟨hq1, rfl⟩
  · go_enter Tryd.func23, Tryd.ntmps23
    go_wp2_with (first
      | (go_at_call 43; go_must (refine HMA.out.mono ?_; rintro e w1 ⟨rfl, hk1⟩; have HK1 := Lib.hid hk1; clear hk1))
      | ((with_reducible refine wpList_store_row ?a1 88 (.tmp 6) (.tmp 18) ?a2 w1.heap.size (bv mk).toArray ?a3 ?a4 88 (u8s (List.replicate 8 0)) ?a5 ?a6 ?a7 ?a8 ?a9); (case a1 => rfl); (case a2 => rfl); (case a3 => rfl); (case a4 => rfl); (case a5 => exact heap_alloc_new w1 _); (case a6 => (rw [HMV.out]; kernel_rfl)); (case a7 => (rw [u8s_size, HMV.out, List.length_replicate])); (case a8 => exact HMO.out); have HS0 : Hid (SP w ((w1.alloc (.cells (u8s (List.replicate 8 0)) 88)).setRow w1.heap.size (bv mk).toArray) w1.heap.size mk (.slice none 0 0) []) := Lib.hid (sp_start HK1.out); change wpList _ _ _ _ _ ((w1.alloc (.cells (u8s (List.replicate 8 0)) 88)).setRow w1.heap.size (bv mk).toArray); generalize (w1.alloc (.cells (u8s (List.replicate 8 0)) 88)).setRow w1.heap.size (bv mk).toArray = W2 at *)
      | fail)
    try simp only [hX]
    clear hX
    generalize w1.heap.size = M at *
    go_loopw [8, 26] (fun v i wr => ∃ k : Nat, k ≤ c ∧ i = .int .i64 k ∧ Hid (SP w wr M mk v (PS k))) (fun _ i _ => c - (intOf i).toNat)
    case atStart => exact ⟨0, Nat.zero_le _, rfl, by rw [HPS0.out]; exact HS0⟩
    case round =>
      clear HS0
      obtain ⟨k, hk, rfl, HR⟩ := hrel
      by_cases hlt : k < c
      · have kI : (k : Int) < c := by omega
        have hkl := HCI.out k hlt
        by_cases hz : l.length = 0
        · have hk0 : k = 0 := by omega
          have zI : (l.length : Int) ≤ (k : Int) * 497 := by omega
          have zJ : (l.length : Int) ≤ ((k : Int) + 1) * 497 := by omega
          exfalso
          have := HCE.out
          unfold cntP at this
          omega
        · have zI : (k : Int) * 497 < (l.length : Int) := by have := HCE.out; unfold cntP at this; omega
          by_cases hm : ((k : Int) + 1) * 497 < (l.length : Int)
          · skip
            obtain ⟨a3, n3, c3, hsl, hrd⟩ := run_subb_lh el_byt HV.out ((k : Int) * 497) (((k : Int) + 1) * 497) (by omega) (by omega) (by omega)
            have hcn : (l.take ((((k : Int) + 1) * 497)).toNat).drop (((k : Int) * 497)).toNat = contP l k := by
              unfold contP
              rw [List.drop_take]
              rw [show (((k : Int) * 497)).toNat = 497 * k by omega]
              congr 1
              omega
            rw [hcn] at hrd
            have HRD := Lib.hid hrd
            clear hrd hcn
            have HCL := Lib.hid (contP_len l k)
            have HPK := Lib.hid (HPA.out k)
            generalize contP l k = ct at *
            have hal := fun W => run_all8 W M
            go_wp2_with (first
              | (go_at_call 44; go_must (refine (newWriter_yes 512 wr (by decide) (by decide)).mono ?_; rintro e u1 ⟨rfl, hw1, hk1⟩; have HW1 : Hid (WS wr u1 wr.heap.size (.slice none 0 0) []) := Lib.hid ⟨hk1, hw1⟩; clear hw1 hk1))
              | (go_at_call 45; (with_reducible refine (ws_u8 5 HW1.out (by decide) (by simp)).mono ?_); rintro e u2 ⟨o2, rfl, hw2⟩; have HW2 := Lib.hid hw2; clear hw2)
              | (go_at_call 46; go_must (refine (ws_u32 id HW2.out h0 h1 (by simp)).mono ?_; rintro e u3 ⟨o3, rfl, hw3⟩; have HW3 := Lib.hid hw3; clear hw3))
              | (go_at_call 45; (with_reducible refine (ws_u8 ((c : Int)) HW3.out (by have := HC.out; omega) (by simp [be32])).mono ?_); rintro e u4 ⟨o4, rfl, hw4⟩; have HW4 := Lib.hid hw4; clear hw4)
              | (go_at_call 45; (with_reducible refine (ws_u8 (k : Int) HW4.out (by have := HC.out; omega) (by simp [be32])).mono ?_); rintro e u5 ⟨o5, rfl, hw5⟩; have HW5 := Lib.hid hw5; clear hw5)
              | (go_at_call 47; go_must (refine (ws_fixed HW5.out (fun w' kk => rd_mark (kk.heap HR.out.m (by simp)) HML.out) (fun w' kk => HRD.out.kp0 (HR.out.k.trans0 kk)) (by have := HCL.out; have := HML.out; simp [be32]; omega)).mono ?_; rintro e u6 ⟨o6, rfl, hw6⟩; have HW6 := Lib.hid hw6; clear hw6))
              | (go_at_call 48; go_must (refine (ws_out HW6.out).mono ?_; rintro e u7 ⟨g7, n7, rfl, hob, hk7⟩; have HK7 := Lib.hid hk7; have HOB := Lib.hid hob; clear hk7 hob))
              | (at_builtin; (refine wpl_app_pts rfl (.tmp 73) (.tmp 75) (by rfl) (by rfl) (by rfl) (HR.out.kp HK7.out).p (HOB.out.base HR.out.k.size) rfl (Nat.le_trans HR.out.k.size HK7.out.size) (by rw [HPL.out]; have := HC.out; omega) ?_; intro v9 u9 hp9 hk9 hb9; have HP9 := Lib.hid hp9; have HK9 : Hid (SP w u9 M mk v9 (PS k ++ [PP k])) := Lib.hid (SP.next (HR.out.kp HK7.out) hk9 hb9 (by rw [HPK.out]; simpa using hp9)); clear hp9 hk9 hb9))
              | fail)
            go_roundw
            case rel => exact ⟨k + 1, by omega, by go_num, by rw [HPS.out]; exact HK9⟩
            case measure => simp [intOf]; omega
          · have hm2 : (l.length : Int) ≤ ((k : Int) + 1) * 497 := by omega
            obtain ⟨a3, n3, c3, hsl, hrd⟩ := run_subb_lh el_byt HV.out ((k : Int) * 497) (l.length : Int) (by omega) (by omega) (by omega)
            have hcn : (l.take ((l.length : Int)).toNat).drop (((k : Int) * 497)).toNat = contP l k := by
              unfold contP
              rw [List.drop_take]
              rw [show (((k : Int) * 497)).toNat = 497 * k by omega]
              rw [List.take_of_length_le (by rw [List.length_drop]; omega), List.take_of_length_le (by rw [List.length_drop]; omega)]
            rw [hcn] at hrd
            have HRD := Lib.hid hrd
            clear hrd hcn
            have HCL := Lib.hid (contP_len l k)
            have HPK := Lib.hid (HPA.out k)
            generalize contP l k = ct at *
            have hal := fun W => run_all8 W M
            go_wp2_with (first
              | (go_at_call 44; go_must (refine (newWriter_yes 512 wr (by decide) (by decide)).mono ?_; rintro e u1 ⟨rfl, hw1, hk1⟩; have HW1 : Hid (WS wr u1 wr.heap.size (.slice none 0 0) []) := Lib.hid ⟨hk1, hw1⟩; clear hw1 hk1))
              | (go_at_call 45; (with_reducible refine (ws_u8 5 HW1.out (by decide) (by simp)).mono ?_); rintro e u2 ⟨o2, rfl, hw2⟩; have HW2 := Lib.hid hw2; clear hw2)
              | (go_at_call 46; go_must (refine (ws_u32 id HW2.out h0 h1 (by simp)).mono ?_; rintro e u3 ⟨o3, rfl, hw3⟩; have HW3 := Lib.hid hw3; clear hw3))
              | (go_at_call 45; (with_reducible refine (ws_u8 ((c : Int)) HW3.out (by have := HC.out; omega) (by simp [be32])).mono ?_); rintro e u4 ⟨o4, rfl, hw4⟩; have HW4 := Lib.hid hw4; clear hw4)
              | (go_at_call 45; (with_reducible refine (ws_u8 (k : Int) HW4.out (by have := HC.out; omega) (by simp [be32])).mono ?_); rintro e u5 ⟨o5, rfl, hw5⟩; have HW5 := Lib.hid hw5; clear hw5)
              | (go_at_call 47; go_must (refine (ws_fixed HW5.out (fun w' kk => rd_mark (kk.heap HR.out.m (by simp)) HML.out) (fun w' kk => HRD.out.kp0 (HR.out.k.trans0 kk)) (by have := HCL.out; have := HML.out; simp [be32]; omega)).mono ?_; rintro e u6 ⟨o6, rfl, hw6⟩; have HW6 := Lib.hid hw6; clear hw6))
              | (go_at_call 48; go_must (refine (ws_out HW6.out).mono ?_; rintro e u7 ⟨g7, n7, rfl, hob, hk7⟩; have HK7 := Lib.hid hk7; have HOB := Lib.hid hob; clear hk7 hob))
              | (at_builtin; (refine wpl_app_pts rfl (.tmp 73) (.tmp 75) (by rfl) (by rfl) (by rfl) (HR.out.kp HK7.out).p (HOB.out.base HR.out.k.size) rfl (Nat.le_trans HR.out.k.size HK7.out.size) (by rw [HPL.out]; have := HC.out; omega) ?_; intro v9 u9 hp9 hk9 hb9; have HP9 := Lib.hid hp9; have HK9 : Hid (SP w u9 M mk v9 (PS k ++ [PP k])) := Lib.hid (SP.next (HR.out.kp HK7.out) hk9 hb9 (by rw [HPK.out]; simpa using hp9)); clear hp9 hk9 hb9))
              | fail)
            go_roundw
            case rel => exact ⟨k + 1, by omega, by go_num, by rw [HPS.out]; exact HK9⟩
            case measure => simp [intOf]; omega
      · have hke : k = c := by omega
        subst hke
        go_wp2_with fail
        go_ret2
        exact ⟨_, rfl, HR.out.p, HR.out.k⟩
  · go_enter Tryd.func23, Tryd.ntmps23
    go_wp2_with (first
      | (go_at_call 43; go_must (refine HMA.out.mono ?_; rintro e w1 ⟨rfl, hk1⟩; have HK1 := Lib.hid hk1; clear hk1))
      | ((with_reducible refine wpList_store_row ?d1 88 (.tmp 6) (.tmp 18) ?d2 w1.heap.size (bv mk).toArray ?d3 ?d4 88 (u8s (List.replicate 8 0)) ?d5 ?d6 ?d7 ?d8 ?d9); (case d1 => rfl); (case d2 => rfl); (case d3 => rfl); (case d4 => rfl); (case d5 => exact heap_alloc_new w1 _); (case d6 => (rw [HMV.out]; kernel_rfl)); (case d7 => (rw [u8s_size, HMV.out, List.length_replicate])); (case d8 => exact HMO.out); have HS0 : Hid (SP w ((w1.alloc (.cells (u8s (List.replicate 8 0)) 88)).setRow w1.heap.size (bv mk).toArray) w1.heap.size mk (.slice none 0 0) []) := Lib.hid (sp_start HK1.out); change wpList _ _ _ _ _ ((w1.alloc (.cells (u8s (List.replicate 8 0)) 88)).setRow w1.heap.size (bv mk).toArray); generalize (w1.alloc (.cells (u8s (List.replicate 8 0)) 88)).setRow w1.heap.size (bv mk).toArray = W2 at *)
      | fail)
    try simp only [hX]
    clear hX
    generalize w1.heap.size = M at *
    go_loopw [8, 26] (fun v i wr => ∃ k : Nat, k ≤ 1 ∧ i = .int .i64 k ∧ Hid (SP w wr M mk v (PS k))) (fun _ i _ => 1 - (intOf i).toNat)
    case atStart => exact ⟨0, Nat.zero_le _, rfl, by rw [HPS0.out]; exact HS0⟩
    case round =>
      clear HS0
      obtain ⟨k, hk, rfl, HR⟩ := hrel
      by_cases hlt : k < 1
      · have kI : (k : Int) < 1 := by omega
        have hkl := HCI.out k hlt
        by_cases hz : l.length = 0
        · have hk0 : k = 0 := by omega
          have zI : (l.length : Int) ≤ (k : Int) * 497 := by omega
          have zJ : (l.length : Int) ≤ ((k : Int) + 1) * 497 := by omega
          obtain ⟨a3, n3, c3, hsl, hrd⟩ := run_subb_lh el_byt HV.out (l.length : Int) (l.length : Int) (by omega) (by omega) (by omega)
          have hcn : (l.take ((l.length : Int)).toNat).drop ((l.length : Int)).toNat = contP l k := by
            unfold contP
            rw [List.drop_take]
            rw [List.drop_eq_nil_of_le (by omega), List.drop_eq_nil_of_le (by omega), List.take_nil, List.take_nil]
          rw [hcn] at hrd
          have HRD := Lib.hid hrd
          clear hrd hcn hz hk0
          have HCL := Lib.hid (contP_len l k)
          have HPK := Lib.hid (HPA.out k)
          generalize contP l k = ct at *
          have hal := fun W => run_all8 W M
          go_wp2_with (first
            | (go_at_call 44; go_must (refine (newWriter_yes 512 wr (by decide) (by decide)).mono ?_; rintro e u1 ⟨rfl, hw1, hk1⟩; have HW1 : Hid (WS wr u1 wr.heap.size (.slice none 0 0) []) := Lib.hid ⟨hk1, hw1⟩; clear hw1 hk1))
            | (go_at_call 45; (with_reducible refine (ws_u8 5 HW1.out (by decide) (by simp)).mono ?_); rintro e u2 ⟨o2, rfl, hw2⟩; have HW2 := Lib.hid hw2; clear hw2)
            | (go_at_call 46; go_must (refine (ws_u32 id HW2.out h0 h1 (by simp)).mono ?_; rintro e u3 ⟨o3, rfl, hw3⟩; have HW3 := Lib.hid hw3; clear hw3))
            | (go_at_call 45; (with_reducible refine (ws_u8 (1) HW3.out (by have := HC.out; omega) (by simp [be32])).mono ?_); rintro e u4 ⟨o4, rfl, hw4⟩; have HW4 := Lib.hid hw4; clear hw4)
            | (go_at_call 45; (with_reducible refine (ws_u8 (k : Int) HW4.out (by have := HC.out; omega) (by simp [be32])).mono ?_); rintro e u5 ⟨o5, rfl, hw5⟩; have HW5 := Lib.hid hw5; clear hw5)
            | (go_at_call 47; go_must (refine (ws_fixed HW5.out (fun w' kk => rd_mark (kk.heap HR.out.m (by simp)) HML.out) (fun w' kk => HRD.out.kp0 (HR.out.k.trans0 kk)) (by have := HCL.out; have := HML.out; simp [be32]; omega)).mono ?_; rintro e u6 ⟨o6, rfl, hw6⟩; have HW6 := Lib.hid hw6; clear hw6))
            | (go_at_call 48; go_must (refine (ws_out HW6.out).mono ?_; rintro e u7 ⟨g7, n7, rfl, hob, hk7⟩; have HK7 := Lib.hid hk7; have HOB := Lib.hid hob; clear hk7 hob))
            | (at_builtin; (refine wpl_app_pts rfl (.tmp 73) (.tmp 75) (by rfl) (by rfl) (by rfl) (HR.out.kp HK7.out).p (HOB.out.base HR.out.k.size) rfl (Nat.le_trans HR.out.k.size HK7.out.size) (by rw [HPL.out]; have := HC.out; omega) ?_; intro v9 u9 hp9 hk9 hb9; have HP9 := Lib.hid hp9; have HK9 : Hid (SP w u9 M mk v9 (PS k ++ [PP k])) := Lib.hid (SP.next (HR.out.kp HK7.out) hk9 hb9 (by rw [HPK.out]; simpa using hp9)); clear hp9 hk9 hb9))
            | fail)
          go_roundw
          case rel => exact ⟨k + 1, by omega, by go_num, by rw [HPS.out]; exact HK9⟩
          case measure => simp [intOf]; omega
        · have zI : (k : Int) * 497 < (l.length : Int) := by have := HCE.out; unfold cntP at this; omega
          by_cases hm : ((k : Int) + 1) * 497 < (l.length : Int)
          · exfalso
            have := HCE.out
            unfold cntP at this
            omega
          · have hm2 : (l.length : Int) ≤ ((k : Int) + 1) * 497 := by omega
            obtain ⟨a3, n3, c3, hsl, hrd⟩ := run_subb_lh el_byt HV.out ((k : Int) * 497) (l.length : Int) (by omega) (by omega) (by omega)
            have hcn : (l.take ((l.length : Int)).toNat).drop (((k : Int) * 497)).toNat = contP l k := by
              unfold contP
              rw [List.drop_take]
              rw [show (((k : Int) * 497)).toNat = 497 * k by omega]
              rw [List.take_of_length_le (by rw [List.length_drop]; omega), List.take_of_length_le (by rw [List.length_drop]; omega)]
            rw [hcn] at hrd
            have HRD := Lib.hid hrd
            clear hrd hcn
            have HCL := Lib.hid (contP_len l k)
            have HPK := Lib.hid (HPA.out k)
            generalize contP l k = ct at *
            have hal := fun W => run_all8 W M
            go_wp2_with (first
              | (go_at_call 44; go_must (refine (newWriter_yes 512 wr (by decide) (by decide)).mono ?_; rintro e u1 ⟨rfl, hw1, hk1⟩; have HW1 : Hid (WS wr u1 wr.heap.size (.slice none 0 0) []) := Lib.hid ⟨hk1, hw1⟩; clear hw1 hk1))
              | (go_at_call 45; (with_reducible refine (ws_u8 5 HW1.out (by decide) (by simp)).mono ?_); rintro e u2 ⟨o2, rfl, hw2⟩; have HW2 := Lib.hid hw2; clear hw2)
              | (go_at_call 46; go_must (refine (ws_u32 id HW2.out h0 h1 (by simp)).mono ?_; rintro e u3 ⟨o3, rfl, hw3⟩; have HW3 := Lib.hid hw3; clear hw3))
              | (go_at_call 45; (with_reducible refine (ws_u8 (1) HW3.out (by have := HC.out; omega) (by simp [be32])).mono ?_); rintro e u4 ⟨o4, rfl, hw4⟩; have HW4 := Lib.hid hw4; clear hw4)
              | (go_at_call 45; (with_reducible refine (ws_u8 (k : Int) HW4.out (by have := HC.out; omega) (by simp [be32])).mono ?_); rintro e u5 ⟨o5, rfl, hw5⟩; have HW5 := Lib.hid hw5; clear hw5)
              | (go_at_call 47; go_must (refine (ws_fixed HW5.out (fun w' kk => rd_mark (kk.heap HR.out.m (by simp)) HML.out) (fun w' kk => HRD.out.kp0 (HR.out.k.trans0 kk)) (by have := HCL.out; have := HML.out; simp [be32]; omega)).mono ?_; rintro e u6 ⟨o6, rfl, hw6⟩; have HW6 := Lib.hid hw6; clear hw6))
              | (go_at_call 48; go_must (refine (ws_out HW6.out).mono ?_; rintro e u7 ⟨g7, n7, rfl, hob, hk7⟩; have HK7 := Lib.hid hk7; have HOB := Lib.hid hob; clear hk7 hob))
              | (at_builtin; (refine wpl_app_pts rfl (.tmp 73) (.tmp 75) (by rfl) (by rfl) (by rfl) (HR.out.kp HK7.out).p (HOB.out.base HR.out.k.size) rfl (Nat.le_trans HR.out.k.size HK7.out.size) (by rw [HPL.out]; have := HC.out; omega) ?_; intro v9 u9 hp9 hk9 hb9; have HP9 := Lib.hid hp9; have HK9 : Hid (SP w u9 M mk v9 (PS k ++ [PP k])) := Lib.hid (SP.next (HR.out.kp HK7.out) hk9 hb9 (by rw [HPK.out]; simpa using hp9)); clear hp9 hk9 hb9))
              | fail)
            go_roundw
            case rel => exact ⟨k + 1, by omega, by go_num, by rw [HPS.out]; exact HK9⟩
            case measure => simp [intOf]; omega
      · have hke : k = 1 := by omega
        subst hke
        go_wp2_with fail
        go_ret2
        exact ⟨_, rfl, HR.out.p, HR.out.k⟩
end Go.Proofs.YtkceaepbjdfccaaDoor
