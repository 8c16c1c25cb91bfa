/-
The parcel's tray in a law.
-/
import Derived.Test.YtkceaepbjdfccaaDoorPar19
import Derived.Deep.DeepCutAuto
/-
parcel.Split: its parts lie in blocks apart from one another, with no spare room.
-/
namespace Go.Proofs.YtkceaepbjdfccaaDoor
open Go.RowKit
/-- a slice of byte slices, each of its own, in blocks apart, with no spare room -/
def PtsD (w : World) (B : Nat) (v : Value) (ls : List (List UInt8)) : Prop :=
  ∃ vals : List Value, Own w B 27 v vals ∧ vals.length = ls.length ∧
    (∀ (j : Nat) (x : Value) (p : List UInt8), vals[j]? = some x → ls[j]? = some p → Own w B 5 x (bv p) ∧ ∃ g, x = .slice (some ⟨g, 0, none⟩) p.length p.length) ∧
    ∀ (i j : Nat) (x y : Value) (b : Nat), vals[i]? = some x → vals[j]? = some y → x.ownBlock = some b → y.ownBlock = some b → i = j
theorem PtsD.kp {w w' : World} {B : Nat} {v : Value} {ls : List (List UInt8)} (h : PtsD w B v ls) (k : Kp [] w w') : PtsD w' B v ls := by
  obtain ⟨vals, h1, h2, h3, h4⟩ := h
  exact ⟨vals, h1.kp0 k, h2, fun j x p hx hp => ⟨(h3 j x p hx hp).1.kp0 k, (h3 j x p hx hp).2⟩, h4⟩
theorem PtsD.nil (w : World) (B : Nat) : PtsD w B (.slice none 0 0) [] := ⟨[], Own.nil _ _ _, rfl, fun j x p hx => by simp at hx, fun i j x y b hx => by simp at hx⟩
theorem PtsD.pts {w : World} {B : Nat} {v : Value} {ls : List (List UInt8)} (h : PtsD w B v ls) : Pts w B v ls := by
  obtain ⟨vals, h1, h2, h3, _⟩ := h
  exact ⟨vals, h1, h2, fun j x p hx hp => ⟨(h3 j x p hx hp).1, by obtain ⟨_, g, rfl⟩ := h3 j x p hx hp; rfl⟩⟩
/-- append of one new slice to slices of their own -/
theorem wpl_app_ptsD {ops : Array Oper} {rest : List Oper} {o : Oper} {a : Act} {Q : Exit → Act → World → Prop} (hgd : o.guard = none) (sl x : Operand)
    (ho : o.op = .call { callee := .builtin .append, args := #[sl, x], argTypes := #[50, 50] })
    {W0 W : World} {B g n : Nat} {v : Value} {ls : List (List UInt8)} {p : List UInt8} (hs : a.eval sl = v) (hx : a.eval x = .slice (some ⟨W.heap.size, 0, none⟩) 1 1) (hP : PtsD W0 B v ls) (k00 : Kp [] W0 W) (hxo : Own W W0.heap.size 5 (.slice (some ⟨g, 0, none⟩) n n) (bv p)) (hB : B ≤ W0.heap.size) (hl : ls.length ≤ 1000)
    (h : ∀ v' w', PtsD w' B v' (ls ++ [p]) → Kp v.ownBlock.toList W w' → (∀ b, v.ownBlock = some b → B ≤ b) → wpList Tryd.prog ops Q rest (a.put o.dst v') w') : wpList Tryd.prog ops Q (o :: rest) a (W.alloc (.cells #[.slice (some ⟨g, 0, none⟩) n n] 27)) := by
  obtain ⟨vals, h20, h3, h40, h5⟩ := hP
  have h2 := h20.kp0 k00
  have hBW : B ≤ W.heap.size := Nat.le_trans hB k00.size
  have hxo' := hxo.base hB
  have hn := hxo.rd.len
  rw [bv_length] at hn
  have hgW : W0.heap.size ≤ g := (hxo.lt rfl).1
  have hold : ∀ (j : Nat) (x : Value) (b : Nat), vals[j]? = some x → x.ownBlock = some b → b < W0.heap.size := fun j x b hx hb => by
    have hj := (List.getElem?_eq_some_iff.1 hx).1
    exact ((h40 j x (ls[j]'(by omega)) hx (List.getElem?_eq_getElem (by omega))).1.lt hb).2
  have k0 : Kp [] W (W.alloc (.cells #[.slice (some ⟨g, 0, none⟩) n n] 27)) := (Kp.refl _ _).alloc _
  refine wpl_append el_byts hgd sl x ho hs hx (h2.kp0 k0) (rd_lit1 W 27 (.slice (some ⟨g, 0, none⟩) n n)) (fun u hu => by rw [List.mem_singleton] at hu; subst hu; rfl) (by rw [h3]; simp; omega) (by rw [h3]; simp; omega) (Nat.le_trans hBW k0.size) ?_
  intro v' w' ho5 hg5
  have hP2 := Pts.app (B := B) (ls := ls) (p := p) h2 h3 (fun j x p hx hp => ⟨(h40 j x p hx hp).1.kp0 k00, by obtain ⟨_, g, rfl⟩ := h40 j x p hx hp; rfl⟩) hxo' rfl ho5 hg5
  refine h v' w' ?_ hP2.2 (fun b hb => (h2.lt hb).1)
  have hne : ∀ (y : Value) (q : List UInt8), Own W B 5 y (bv q) → Own w' B 5 y (bv q) := fun y q hy => hy.kp hP2.2 (fun b hb hm => by
    rw [Option.mem_toList] at hm
    obtain ⟨cur, hc⟩ := h2.block hm
    exact hy.not_at hc (by decide) hb)
  have hvo : ∀ (j : Nat) (y : Value), (vals ++ [.slice (some ⟨g, 0, none⟩) n n])[j]? = some y → (j < vals.length ∧ vals[j]? = some y) ∨ (j = vals.length ∧ y = .slice (some ⟨g, 0, none⟩) n n) := fun j y hy => by
    by_cases hj : j < vals.length
    · rw [List.getElem?_append_left hj] at hy
      exact .inl ⟨hj, hy⟩
    · rw [List.getElem?_append_right (by omega)] at hy
      have hj0 : j - vals.length = 0 := by
        have := (List.getElem?_eq_some_iff.1 hy).1
        simp at this
        omega
      rw [hj0] at hy
      cases hy
      exact .inr ⟨by omega, rfl⟩
  refine ⟨vals ++ [.slice (some ⟨g, 0, none⟩) n n], ho5, by rw [List.length_append, List.length_append, h3]; rfl, fun j y q hy hq => ?_, fun i j x y b hx hy hbx hby => ?_⟩
  · rcases hvo j y hy with ⟨hj, hy⟩ | ⟨hj, rfl⟩
    · rw [List.getElem?_append_left (by omega)] at hq
      exact ⟨hne y q ((h40 j y q hy hq).1.kp0 k00), (h40 j y q hy hq).2⟩
    · rw [List.getElem?_append_right (by omega), hj, h3, Nat.sub_self] at hq
      cases hq
      exact ⟨hne _ _ hxo', g, by rw [hn]⟩
  · rcases hvo i x hx with ⟨hi, hx⟩ | ⟨hi, rfl⟩ <;> rcases hvo j y hy with ⟨hj, hy⟩ | ⟨hj, rfl⟩
    · exact h5 i j x y b hx hy hbx hby
    · have h1 := hold i x b hx hbx
      have e : some g = some b := hby
      rw [Option.some.injEq] at e
      omega
    · have h1 := hold j y b hy hby
      have e : some g = some b := hbx
      rw [Option.some.injEq] at e
      omega
    · omega
/-- what lies where while parts are made -/
structure SPD (w wr : World) (M : Nat) (mk : List UInt8) (v : Value) (ls : List (List UInt8)) : Prop where
  k : Kp [] w wr
  hM : w.heap.size ≤ M
  m : wr.heap[M]? = some (.cells (bv mk).toArray 88 (0, 0))
  p : PtsD wr w.heap.size v ls
theorem SPD.kp {w wr w' : World} {M : Nat} {mk : List UInt8} {v : Value} {ls : List (List UInt8)} (h : SPD w wr M mk v ls) (k : Kp [] wr w') : SPD w w' M mk v ls := ⟨h.k.trans0 k, h.hM, k.heap h.m (by simp), h.p.kp k⟩
theorem SPD.next {w wr u : World} {M : Nat} {mk : List UInt8} {v v9 : Value} {ls ls' : List (List UInt8)} (h : SPD w wr M mk v ls) (hk : Kp v.ownBlock.toList wr u) (hb : ∀ b, v.ownBlock = some b → w.heap.size ≤ b) (hp : PtsD u w.heap.size v9 ls') : SPD w u M mk v9 ls' := by
  refine ⟨h.k.trans hk (fun m hm => .inr (hb m (by rwa [Option.mem_toList] at hm))), h.hM, hk.heap h.m (fun hm => ?_), hp⟩
  rw [Option.mem_toList] at hm
  obtain ⟨vals, h1, _⟩ := h.p
  obtain ⟨cur, hc⟩ := h1.block hm
  rw [h.m] at hc
  simp only [Option.some.injEq, Obj.cells.injEq] at hc
  exact absurd hc.2.1 (by decide)
theorem spD_start {w w1 : World} {mk : List UInt8} {Z : Array Value} (k : Kp [] w w1) : SPD w ((w1.alloc (.cells Z 88)).setRow w1.heap.size (bv mk).toArray) w1.heap.size mk (.slice none 0 0) [] := by
  have h := sp_start (mk := mk) (Z := Z) k
  exact ⟨h.k, h.hM, h.m, PtsD.nil _ _⟩
set_option maxRecDepth 100000 in
set_option maxHeartbeats 2000000 in
theorem split_anyD (kk bg : List Int) (id : Int) (h0 : 0 ≤ id) (h1 : id < 4294967296) (v : Value) (l : List UInt8) (w : World) (hT : Tabs kk bg w) (hv : Rd w v (bv l)) (hl : l.length ≤ 31808) :
    Calls Tryd.prog 23 #[.int .u32 id, v] w fun e w' => ∃ v', e = .returned (.tuple #[v', .int .i64 0]) ∧ PtsD w' w.heap.size v' (partsP kk bg id l (cntP l.length)) ∧ Kp [] w w' := by
  obtain ⟨ao, cap, rfl⟩ := hv.form
  rw [show (bv l).length = l.length from bv_length l] at hv ⊢
  have HT := Lib.hid hT
  have HV := Lib.hid hv
  have HMA := Lib.hid (marked_any kk bg _ l w hT hv (by omega))
  have HML := Lib.hid (mark_len kk bg l)
  have HPA : Hid (∀ i, partP kk bg id l i = [lo8 5] ++ be32 id ++ [lo8 (cntP l.length : Int)] ++ [lo8 (i : Int)] ++ (mark kk bg l ++ contP l i)) := Lib.hid (fun i => rfl)
  have HPS : Hid (∀ n, partsP kk bg id l (n + 1) = partsP kk bg id l n ++ [partP kk bg id l n]) := Lib.hid (partsP_succ kk bg id l)
  have HPL : Hid (∀ n, (partsP kk bg id l n).length = n) := Lib.hid (partsP_len kk bg id l)
  have HMV : Hid ((bv (mark kk bg l)).toArray.size = 8) := Lib.hid (by rw [List.size_toArray, bv_length, mark_len])
  have HMO : Hid ((bv (mark kk bg l)).toArray.all (·.oneCell') = true) := Lib.hid (all_oneCell_toArray (bv_oneCell _))
  have hcs := cntP_small hl
  obtain ⟨c, hc⟩ : ∃ c, c = cntP l.length := ⟨_, rfl⟩
  have HCE := Lib.hid hc
  have HC : Hid (1 ≤ c ∧ c ≤ 64) := Lib.hid (by rw [hc]; exact hcs)
  have HCI : Hid (∀ i, i < c → 497 * i ≤ l.length) := Lib.hid (fun i hi => (cntP_lt (by rw [← hc]; exact hi)).1)
  rw [← hc] at HPA ⊢
  obtain ⟨X, hX⟩ : ∃ X, ((l.length : Int) + 497 - 1) / 497 = X := ⟨_, rfl⟩
  have hq : (1 < X ∧ X = (c : Int)) ∨ (X ≤ 1 ∧ c = 1) := by unfold cntP at hc; omega
  generalize mark kk bg l = mk at *
  generalize hPP : partP kk bg id l = PP at *
  generalize hPS : partsP kk bg id l = PS at *
  have HPS0 : Hid (PS 0 = []) := Lib.hid (by rw [← hPS]; rfl)
  have lI : (l.length : Int) ≤ 31808 := by omega
  have l0 : ¬ (31808 : Int) < (l.length : Int) := by omega
  clear hPP hPS hT hv hcs hc
  rcases hq with ⟨hq1, rfl⟩ | ⟨hq1, rfl⟩
  · go_enter Tryd.func23, Tryd.ntmps23
    go_wp2_with (first
      | (go_at_call 43; go_must (refine HMA.out.mono ?_; rintro e w1 ⟨rfl, hk1⟩; have HK1 := Lib.hid hk1; clear hk1))
      | ((with_reducible refine wpList_store_row ?a1 88 (.tmp 6) (.tmp 18) ?a2 w1.heap.size (bv mk).toArray ?a3 ?a4 88 (u8s (List.replicate 8 0)) ?a5 ?a6 ?a7 ?a8 ?a9); (case a1 => rfl); (case a2 => rfl); (case a3 => rfl); (case a4 => rfl); (case a5 => exact heap_alloc_new w1 _); (case a6 => (rw [HMV.out]; kernel_rfl)); (case a7 => (rw [u8s_size, HMV.out, List.length_replicate])); (case a8 => exact HMO.out); have HS0 : Hid (SPD w ((w1.alloc (.cells (u8s (List.replicate 8 0)) 88)).setRow w1.heap.size (bv mk).toArray) w1.heap.size mk (.slice none 0 0) []) := Lib.hid (spD_start HK1.out); change wpList _ _ _ _ _ ((w1.alloc (.cells (u8s (List.replicate 8 0)) 88)).setRow w1.heap.size (bv mk).toArray); generalize (w1.alloc (.cells (u8s (List.replicate 8 0)) 88)).setRow w1.heap.size (bv mk).toArray = W2 at *)
      | fail)
    try simp only [hX]
    clear hX
    generalize w1.heap.size = M at *
    go_loopw [8, 26] (fun v i wr => ∃ k : Nat, k ≤ c ∧ i = .int .i64 k ∧ Hid (SPD w wr M mk v (PS k))) (fun _ i _ => c - (intOf i).toNat)
    case atStart => exact ⟨0, Nat.zero_le _, rfl, by rw [HPS0.out]; exact HS0⟩
    case round =>
      clear HS0
      obtain ⟨k, hk, rfl, HR⟩ := hrel
      by_cases hlt : k < c
      · have kI : (k : Int) < c := by omega
        have hkl := HCI.out k hlt
        by_cases hz : l.length = 0
        · have hk0 : k = 0 := by omega
          have zI : (l.length : Int) ≤ (k : Int) * 497 := by omega
          have zJ : (l.length : Int) ≤ ((k : Int) + 1) * 497 := by omega
          exfalso
          have := HCE.out
          unfold cntP at this
          omega
        · have zI : (k : Int) * 497 < (l.length : Int) := by have := HCE.out; unfold cntP at this; omega
          by_cases hm : ((k : Int) + 1) * 497 < (l.length : Int)
          · skip
            obtain ⟨a3, n3, c3, hsl, hrd⟩ := run_subb_lh el_byt HV.out ((k : Int) * 497) (((k : Int) + 1) * 497) (by omega) (by omega) (by omega)
            have hcn : (l.take ((((k : Int) + 1) * 497)).toNat).drop (((k : Int) * 497)).toNat = contP l k := by
              unfold contP
              rw [List.drop_take]
              rw [show (((k : Int) * 497)).toNat = 497 * k by omega]
              congr 1
              omega
            rw [hcn] at hrd
            have HRD := Lib.hid hrd
            clear hrd hcn
            have HCL := Lib.hid (contP_len l k)
            have HPK := Lib.hid (HPA.out k)
            generalize contP l k = ct at *
            have hal := fun W => run_all8 W M
            go_wp2_with (first
              | (go_at_call 44; go_must (refine (newWriter_yes 512 wr (by decide) (by decide)).mono ?_; rintro e u1 ⟨rfl, hw1, hk1⟩; have HW1 : Hid (WS wr u1 wr.heap.size (.slice none 0 0) []) := Lib.hid ⟨hk1, hw1⟩; clear hw1 hk1))
              | (go_at_call 45; (with_reducible refine (ws_u8 5 HW1.out (by decide) (by simp)).mono ?_); rintro e u2 ⟨o2, rfl, hw2⟩; have HW2 := Lib.hid hw2; clear hw2)
              | (go_at_call 46; go_must (refine (ws_u32 id HW2.out h0 h1 (by simp)).mono ?_; rintro e u3 ⟨o3, rfl, hw3⟩; have HW3 := Lib.hid hw3; clear hw3))
              | (go_at_call 45; (with_reducible refine (ws_u8 ((c : Int)) HW3.out (by have := HC.out; omega) (by simp [be32])).mono ?_); rintro e u4 ⟨o4, rfl, hw4⟩; have HW4 := Lib.hid hw4; clear hw4)
              | (go_at_call 45; (with_reducible refine (ws_u8 (k : Int) HW4.out (by have := HC.out; omega) (by simp [be32])).mono ?_); rintro e u5 ⟨o5, rfl, hw5⟩; have HW5 := Lib.hid hw5; clear hw5)
              | (go_at_call 47; go_must (refine (ws_fixed HW5.out (fun w' kk => rd_mark (kk.heap HR.out.m (by simp)) HML.out) (fun w' kk => HRD.out.kp0 (HR.out.k.trans0 kk)) (by have := HCL.out; have := HML.out; simp [be32]; omega)).mono ?_; rintro e u6 ⟨o6, rfl, hw6⟩; have HW6 := Lib.hid hw6; clear hw6))
              | (go_at_call 48; go_must (refine (ws_out HW6.out).mono ?_; rintro e u7 ⟨g7, n7, rfl, hob, hk7⟩; have HK7 := Lib.hid hk7; have HOB := Lib.hid hob; clear hk7 hob))
              | (at_builtin; (refine wpl_app_ptsD rfl (.tmp 73) (.tmp 75) (by rfl) (by rfl) (by rfl) HR.out.p HK7.out HOB.out HR.out.k.size (by rw [HPL.out]; have := HC.out; omega) ?_; intro v9 u9 hp9 hk9 hb9; have HP9 := Lib.hid hp9; have HK9 : Hid (SPD w u9 M mk v9 (PS k ++ [PP k])) := Lib.hid (SPD.next (HR.out.kp HK7.out) hk9 hb9 (by rw [HPK.out]; simpa using hp9)); clear hp9 hk9 hb9))
              | fail)
            go_roundw
            case rel => exact ⟨k + 1, by omega, by go_num, by rw [HPS.out]; exact HK9⟩
            case measure => simp [intOf]; omega
          · have hm2 : (l.length : Int) ≤ ((k : Int) + 1) * 497 := by omega
            obtain ⟨a3, n3, c3, hsl, hrd⟩ := run_subb_lh el_byt HV.out ((k : Int) * 497) (l.length : Int) (by omega) (by omega) (by omega)
            have hcn : (l.take ((l.length : Int)).toNat).drop (((k : Int) * 497)).toNat = contP l k := by
              unfold contP
              rw [List.drop_take]
              rw [show (((k : Int) * 497)).toNat = 497 * k by omega]
              rw [List.take_of_length_le (by rw [List.length_drop]; omega), List.take_of_length_le (by rw [List.length_drop]; omega)]
            rw [hcn] at hrd
            have HRD := Lib.hid hrd
            clear hrd hcn
            have HCL := Lib.hid (contP_len l k)
            have HPK := Lib.hid (HPA.out k)
            generalize contP l k = ct at *
            have hal := fun W => run_all8 W M
            go_wp2_with (first
              | (go_at_call 44; go_must (refine (newWriter_yes 512 wr (by decide) (by decide)).mono ?_; rintro e u1 ⟨rfl, hw1, hk1⟩; have HW1 : Hid (WS wr u1 wr.heap.size (.slice none 0 0) []) := Lib.hid ⟨hk1, hw1⟩; clear hw1 hk1))
              | (go_at_call 45; (with_reducible refine (ws_u8 5 HW1.out (by decide) (by simp)).mono ?_); rintro e u2 ⟨o2, rfl, hw2⟩; have HW2 := Lib.hid hw2; clear hw2)
              | (go_at_call 46; go_must (refine (ws_u32 id HW2.out h0 h1 (by simp)).mono ?_; rintro e u3 ⟨o3, rfl, hw3⟩; have HW3 := Lib.hid hw3; clear hw3))
              | (go_at_call 45; (with_reducible refine (ws_u8 ((c : Int)) HW3.out (by have := HC.out; omega) (by simp [be32])).mono ?_); rintro e u4 ⟨o4, rfl, hw4⟩; have HW4 := Lib.hid hw4; clear hw4)
              | (go_at_call 45; (with_reducible refine (ws_u8 (k : Int) HW4.out (by have := HC.out; omega) (by simp [be32])).mono ?_); rintro e u5 ⟨o5, rfl, hw5⟩; have HW5 := Lib.hid hw5; clear hw5)
              | (go_at_call 47; go_must (refine (ws_fixed HW5.out (fun w' kk => rd_mark (kk.heap HR.out.m (by simp)) HML.out) (fun w' kk => HRD.out.kp0 (HR.out.k.trans0 kk)) (by have := HCL.out; have := HML.out; simp [be32]; omega)).mono ?_; rintro e u6 ⟨o6, rfl, hw6⟩; have HW6 := Lib.hid hw6; clear hw6))
              | (go_at_call 48; go_must (refine (ws_out HW6.out).mono ?_; rintro e u7 ⟨g7, n7, rfl, hob, hk7⟩; have HK7 := Lib.hid hk7; have HOB := Lib.hid hob; clear hk7 hob))
              | (at_builtin; (refine wpl_app_ptsD rfl (.tmp 73) (.tmp 75) (by rfl) (by rfl) (by rfl) HR.out.p HK7.out HOB.out HR.out.k.size (by rw [HPL.out]; have := HC.out; omega) ?_; intro v9 u9 hp9 hk9 hb9; have HP9 := Lib.hid hp9; have HK9 : Hid (SPD w u9 M mk v9 (PS k ++ [PP k])) := Lib.hid (SPD.next (HR.out.kp HK7.out) hk9 hb9 (by rw [HPK.out]; simpa using hp9)); clear hp9 hk9 hb9))
              | fail)
            go_roundw
            case rel => exact ⟨k + 1, by omega, by go_num, by rw [HPS.out]; exact HK9⟩
            case measure => simp [intOf]; omega
      · have hke : k = c := by omega
        subst hke
        go_wp2_with fail
        go_ret2
        exact ⟨_, rfl, HR.out.p, HR.out.k⟩
  · go_enter Tryd.func23, Tryd.ntmps23
    go_wp2_with (first
      | (go_at_call 43; go_must (refine HMA.out.mono ?_; rintro e w1 ⟨rfl, hk1⟩; have HK1 := Lib.hid hk1; clear hk1))
      | ((with_reducible refine wpList_store_row ?d1 88 (.tmp 6) (.tmp 18) ?d2 w1.heap.size (bv mk).toArray ?d3 ?d4 88 (u8s (List.replicate 8 0)) ?d5 ?d6 ?d7 ?d8 ?d9); (case d1 => rfl); (case d2 => rfl); (case d3 => rfl); (case d4 => rfl); (case d5 => exact heap_alloc_new w1 _); (case d6 => (rw [HMV.out]; kernel_rfl)); (case d7 => (rw [u8s_size, HMV.out, List.length_replicate])); (case d8 => exact HMO.out); have HS0 : Hid (SPD w ((w1.alloc (.cells (u8s (List.replicate 8 0)) 88)).setRow w1.heap.size (bv mk).toArray) w1.heap.size mk (.slice none 0 0) []) := Lib.hid (spD_start HK1.out); change wpList _ _ _ _ _ ((w1.alloc (.cells (u8s (List.replicate 8 0)) 88)).setRow w1.heap.size (bv mk).toArray); generalize (w1.alloc (.cells (u8s (List.replicate 8 0)) 88)).setRow w1.heap.size (bv mk).toArray = W2 at *)
      | fail)
    try simp only [hX]
    clear hX
    generalize w1.heap.size = M at *
    go_loopw [8, 26] (fun v i wr => ∃ k : Nat, k ≤ 1 ∧ i = .int .i64 k ∧ Hid (SPD w wr M mk v (PS k))) (fun _ i _ => 1 - (intOf i).toNat)
    case atStart => exact ⟨0, Nat.zero_le _, rfl, by rw [HPS0.out]; exact HS0⟩
    case round =>
      clear HS0
      obtain ⟨k, hk, rfl, HR⟩ := hrel
      by_cases hlt : k < 1
      · have kI : (k : Int) < 1 := by omega
        have hkl := HCI.out k hlt
        by_cases hz : l.length = 0
        · have hk0 : k = 0 := by omega
          have zI : (l.length : Int) ≤ (k : Int) * 497 := by omega
          have zJ : (l.length : Int) ≤ ((k : Int) + 1) * 497 := by omega
          obtain ⟨a3, n3, c3, hsl, hrd⟩ := run_subb_lh el_byt HV.out (l.length : Int) (l.length : Int) (by omega) (by omega) (by omega)
          have hcn : (l.take ((l.length : Int)).toNat).drop ((l.length : Int)).toNat = contP l k := by
            unfold contP
            rw [List.drop_take]
            rw [List.drop_eq_nil_of_le (by omega), List.drop_eq_nil_of_le (by omega), List.take_nil, List.take_nil]
          rw [hcn] at hrd
          have HRD := Lib.hid hrd
          clear hrd hcn hz hk0
          have HCL := Lib.hid (contP_len l k)
          have HPK := Lib.hid (HPA.out k)
          generalize contP l k = ct at *
          have hal := fun W => run_all8 W M
          go_wp2_with (first
            | (go_at_call 44; go_must (refine (newWriter_yes 512 wr (by decide) (by decide)).mono ?_; rintro e u1 ⟨rfl, hw1, hk1⟩; have HW1 : Hid (WS wr u1 wr.heap.size (.slice none 0 0) []) := Lib.hid ⟨hk1, hw1⟩; clear hw1 hk1))
            | (go_at_call 45; (with_reducible refine (ws_u8 5 HW1.out (by decide) (by simp)).mono ?_); rintro e u2 ⟨o2, rfl, hw2⟩; have HW2 := Lib.hid hw2; clear hw2)
            | (go_at_call 46; go_must (refine (ws_u32 id HW2.out h0 h1 (by simp)).mono ?_; rintro e u3 ⟨o3, rfl, hw3⟩; have HW3 := Lib.hid hw3; clear hw3))
            | (go_at_call 45; (with_reducible refine (ws_u8 (1) HW3.out (by have := HC.out; omega) (by simp [be32])).mono ?_); rintro e u4 ⟨o4, rfl, hw4⟩; have HW4 := Lib.hid hw4; clear hw4)
            | (go_at_call 45; (with_reducible refine (ws_u8 (k : Int) HW4.out (by have := HC.out; omega) (by simp [be32])).mono ?_); rintro e u5 ⟨o5, rfl, hw5⟩; have HW5 := Lib.hid hw5; clear hw5)
            | (go_at_call 47; go_must (refine (ws_fixed HW5.out (fun w' kk => rd_mark (kk.heap HR.out.m (by simp)) HML.out) (fun w' kk => HRD.out.kp0 (HR.out.k.trans0 kk)) (by have := HCL.out; have := HML.out; simp [be32]; omega)).mono ?_; rintro e u6 ⟨o6, rfl, hw6⟩; have HW6 := Lib.hid hw6; clear hw6))
            | (go_at_call 48; go_must (refine (ws_out HW6.out).mono ?_; rintro e u7 ⟨g7, n7, rfl, hob, hk7⟩; have HK7 := Lib.hid hk7; have HOB := Lib.hid hob; clear hk7 hob))
            | (at_builtin; (refine wpl_app_ptsD rfl (.tmp 73) (.tmp 75) (by rfl) (by rfl) (by rfl) HR.out.p HK7.out HOB.out HR.out.k.size (by rw [HPL.out]; have := HC.out; omega) ?_; intro v9 u9 hp9 hk9 hb9; have HP9 := Lib.hid hp9; have HK9 : Hid (SPD w u9 M mk v9 (PS k ++ [PP k])) := Lib.hid (SPD.next (HR.out.kp HK7.out) hk9 hb9 (by rw [HPK.out]; simpa using hp9)); clear hp9 hk9 hb9))
            | fail)
          go_roundw
          case rel => exact ⟨k + 1, by omega, by go_num, by rw [HPS.out]; exact HK9⟩
          case measure => simp [intOf]; omega
        · have zI : (k : Int) * 497 < (l.length : Int) := by have := HCE.out; unfold cntP at this; omega
          by_cases hm : ((k : Int) + 1) * 497 < (l.length : Int)
          · exfalso
            have := HCE.out
            unfold cntP at this
            omega
          · have hm2 : (l.length : Int) ≤ ((k : Int) + 1) * 497 := by omega
            obtain ⟨a3, n3, c3, hsl, hrd⟩ := run_subb_lh el_byt HV.out ((k : Int) * 497) (l.length : Int) (by omega) (by omega) (by omega)
            have hcn : (l.take ((l.length : Int)).toNat).drop (((k : Int) * 497)).toNat = contP l k := by
              unfold contP
              rw [List.drop_take]
              rw [show (((k : Int) * 497)).toNat = 497 * k by omega]
              rw [List.take_of_length_le (by rw [List.length_drop]; omega), List.take_of_length_le (by rw [List.length_drop]; omega)]
            rw [hcn] at hrd
            have HRD := Lib.hid hrd
            clear hrd hcn
            have HCL := Lib.hid (contP_len l k)
            have HPK := Lib.hid (HPA.out k)
            generalize contP l k = ct at *
            have hal := fun W => run_all8 W M
            go_wp2_with (first
              | (go_at_call 44; go_must (refine (newWriter_yes 512 wr (by decide) (by decide)).mono ?_; rintro e u1 ⟨rfl, hw1, hk1⟩; have HW1 : Hid (WS wr u1 wr.heap.size (.slice none 0 0) []) := Lib.hid ⟨hk1, hw1⟩; clear hw1 hk1))
              | (go_at_call 45; (with_reducible refine (ws_u8 5 HW1.out (by decide) (by simp)).mono ?_); rintro e u2 ⟨o2, rfl, hw2⟩; have HW2 := Lib.hid hw2; clear hw2)
              | (go_at_call 46; go_must (refine (ws_u32 id HW2.out h0 h1 (by simp)).mono ?_; rintro e u3 ⟨o3, rfl, hw3⟩; have HW3 := Lib.hid hw3; clear hw3))
              | (go_at_call 45; (with_reducible refine (ws_u8 (1) HW3.out (by have := HC.out; omega) (by simp [be32])).mono ?_); rintro e u4 ⟨o4, rfl, hw4⟩; have HW4 := Lib.hid hw4; clear hw4)
              | (go_at_call 45; (with_reducible refine (ws_u8 (k : Int) HW4.out (by have := HC.out; omega) (by simp [be32])).mono ?_); rintro e u5 ⟨o5, rfl, hw5⟩; have HW5 := Lib.hid hw5; clear hw5)
              | (go_at_call 47; go_must (refine (ws_fixed HW5.out (fun w' kk => rd_mark (kk.heap HR.out.m (by simp)) HML.out) (fun w' kk => HRD.out.kp0 (HR.out.k.trans0 kk)) (by have := HCL.out; have := HML.out; simp [be32]; omega)).mono ?_; rintro e u6 ⟨o6, rfl, hw6⟩; have HW6 := Lib.hid hw6; clear hw6))
              | (go_at_call 48; go_must (refine (ws_out HW6.out).mono ?_; rintro e u7 ⟨g7, n7, rfl, hob, hk7⟩; have HK7 := Lib.hid hk7; have HOB := Lib.hid hob; clear hk7 hob))
              | (at_builtin; (refine wpl_app_ptsD rfl (.tmp 73) (.tmp 75) (by rfl) (by rfl) (by rfl) HR.out.p HK7.out HOB.out HR.out.k.size (by rw [HPL.out]; have := HC.out; omega) ?_; intro v9 u9 hp9 hk9 hb9; have HP9 := Lib.hid hp9; have HK9 : Hid (SPD w u9 M mk v9 (PS k ++ [PP k])) := Lib.hid (SPD.next (HR.out.kp HK7.out) hk9 hb9 (by rw [HPK.out]; simpa using hp9)); clear hp9 hk9 hb9))
              | fail)
            go_roundw
            case rel => exact ⟨k + 1, by omega, by go_num, by rw [HPS.out]; exact HK9⟩
            case measure => simp [intOf]; omega
      · have hke : k = 1 := by omega
        subst hke
        go_wp2_with fail
        go_ret2
        exact ⟨_, rfl, HR.out.p, HR.out.k⟩
end Go.Proofs.YtkceaepbjdfccaaDoor
/-
What the laws over a tray hold; their calls.
-/
namespace Go.Proofs.YtkceaepbjdfccaaDoor
open Go.RowKit
/-- of two numbers' greater, folded -/
theorem fold_mod (n M : Int) (hn : -9223372036854775808 ≤ n ∧ n ≤ 9223372036854775807) (hM : 0 < M) : ∃ N : Nat, (if n < wrap64 (-wrap64 (n + 1)) then wrap64 (-wrap64 (n + 1)) else n).tmod M = (N : Int) ∧ (N : Int) < M := by
  have h0 : 0 ≤ (if n < wrap64 (-wrap64 (n + 1)) then wrap64 (-wrap64 (n + 1)) else n) := by
    unfold wrap64
    split <;> omega
  generalize (if n < wrap64 (-wrap64 (n + 1)) then wrap64 (-wrap64 (n + 1)) else n) = x at *
  refine ⟨(x % M).toNat, ?_, ?_⟩
  · rw [Int.tmod_eq_emod_of_nonneg h0, Int.toNat_of_nonneg (Int.emod_nonneg _ (by omega))]
  · rw [Int.toNat_of_nonneg (Int.emod_nonneg _ (by omega))]
    exact Int.emod_lt_of_pos _ hM
theorem fold_modw (n M : Int) (hn : -9223372036854775808 ≤ n ∧ n ≤ 9223372036854775807) (hM : 0 < M) : ∃ N : Nat, (if n < IntKind.i64.wrap (-IntKind.i64.wrap (n + 1)) then IntKind.i64.wrap (-IntKind.i64.wrap (n + 1)) else n).tmod M = (N : Int) ∧ (N : Int) < M := by
  have e : ∀ x, IntKind.i64.wrap x = wrap64 x := fun x => by rw [IntKind.wrap_i64]; unfold wrap64; rfl
  rw [e, e]
  exact fold_mod n M hn hM
/-- what a law over one tray holds -/
structure LW (w W : World) (F : Nat → Prop) (t : Nat) (most : Int) (T : List Ent) (g : Nat) (ls : List (List UInt8)) (tv : Value) (l : List UInt8) : Prop where
  k : Kp [] w W
  tr : TR W F t most T
  pq : Pq W F g ls
  tx : Rs W F tv l
  fw : ∀ b, F b → w.heap.size ≤ b
theorem LW.kp0 {w W W' : World} {F : Nat → Prop} {t : Nat} {most : Int} {T : List Ent} {g : Nat} {ls : List (List UInt8)} {tv : Value} {l : List UInt8} (h : LW w W F t most T g ls tv l) (k : Kp [] W W') : LW w W' F t most T g ls tv l :=
  ⟨h.k.trans0 k, h.tr.kp0 k, h.pq.kp0 k, h.tx.kp0 k, h.fw⟩
theorem LW.kL {w W W' : World} {F : Nat → Prop} {t : Nat} {most : Int} {T : List Ent} {g : Nat} {ls : List (List UInt8)} {tv : Value} {l : List UInt8} (h : LW w W F t most T g ls tv l) {L : List Nat} (k : Kp L W W') (hL : ∀ b ∈ L, F b) : Kp [] w W' :=
  h.k.trans k (fun m hm => .inr (h.fw m (hL m hm)))
theorem LW.fn {w W W' : World} {F : Nat → Prop} {t : Nat} {most : Int} {T T' : List Ent} {g : Nat} {ls : List (List UInt8)} {tv : Value} {l : List UInt8} (h : LW w W F t most T g ls tv l) {L : List Nat} (tr : TR W' (Fn F W W') t most T') (hL : ∀ b ∈ L, F b) (k : Kp L W W') : LW w W' (Fn F W W') t most T' g ls tv l :=
  ⟨h.kL k hL, tr, h.pq.fn k hL, h.tx.fn k hL, fun b hb => by
    rcases hb with hb | hb
    · exact h.fw b hb
    · have := h.k.size; omega⟩
theorem LW.same {w W W' : World} {F : Nat → Prop} {t : Nat} {most : Int} {T T' : List Ent} {g : Nat} {ls : List (List UInt8)} {tv : Value} {l : List UInt8} (h : LW w W F t most T g ls tv l) {L : List Nat} (tr : TR W' F t most T') (hL : ∀ b ∈ L, F b) (k : Kp L W W') : LW w W' F t most T' g ls tv l :=
  ⟨h.kL k hL, tr, h.pq.kp k hL, h.tx.kp k hL, h.fw⟩
theorem partsM_ne (mk : List UInt8 → List UInt8) (id : Int) (l : List UInt8) : partsM mk id l ≠ [] := by
  intro e
  have := congrArg List.length e
  rw [partsM_len] at this
  unfold cntP at this
  simp at this
theorem Pts.shape {W : World} {B : Nat} {v : Value} {ls : List (List UInt8)} (h : Pts W B v ls) (hne : ls ≠ []) : ∃ g c, v = .slice (some ⟨g, 0, none⟩) ls.length c ∧ ∀ (W' : World) (F : Nat → Prop), Kp [] W W' → (∀ b, F b → W.heap.size ≤ b) → Pq W' F g ls := by
  obtain ⟨g, c, rfl, _⟩ := h.pq (F := fun _ => False) (Kp.refl [] W) hne (fun _ hb => hb.elim)
  refine ⟨g, c, rfl, fun W' F k hF => ?_⟩
  obtain ⟨g', c', he, hq⟩ := h.pq k hne hF
  simp only [Value.slice.injEq, Option.some.injEq, Addr.mk.injEq, true_and, and_true] at he
  obtain ⟨rfl, _⟩ := he
  exact hq
theorem strOf_append (a b : List UInt8) : strOf a ++ strOf b = strOf (a ++ b) := by
  have h : (strOf a ++ strOf b).data.toList = (strOf (a ++ b)).data.toList := by rw [ByteArray.data_append, Array.toList_append, strOf_toList, strOf_toList, strOf_toList]
  exact WideShapes.bytes_inj h
theorem new1_any (most : Int) (w : World) (h1 : 1 ≤ most) (h2 : most ≤ 64) :
    Calls Tryd.prog 25 #[.int .i64 most] w fun e w' => ∃ t F, e = .returned (.tuple #[.pointer (some ⟨t, 0, none⟩), .int .i64 0]) ∧ TR w' F t most [] ∧ (∀ b, F b → w.heap.size ≤ b) ∧ Kp [] w w' :=
  (newTray_any most w).mono fun e w' h => by
    rcases h with ⟨h, _⟩ | ⟨_, _, t, F, h3, h4, h5, h6⟩
    · exact absurd ⟨h1, h2⟩ h
    · exact ⟨t, F, h3, h4, h5, h6⟩
theorem Own.rsN {W W' : World} {B : Nat} {F : Nat → Prop} {v : Value} {l : List UInt8} (h : Own W B 5 v (bv l)) (k : Kp [] W W') (hF : ∀ b, F b → W.heap.size ≤ b) : Rs W' F v l :=
  ⟨h.rd.kp0 k, fun b hb => ⟨fun hf => absurd (hF b hf) (Nat.not_le.2 (h.lt hb).2), Nat.lt_of_lt_of_le (h.lt hb).2 k.size⟩⟩
section
variable {mk : List UInt8 → List UInt8} {w W : World} {F : Nat → Prop} {t : Nat} {most : Int} {T : List Ent} {g : Nat} {ls : List (List UInt8)} {tv : Value} {l : List UInt8}
theorem lw_add (ml : ∀ l, (mk l).length = 8) (mc : ∀ W v l, Kp [] w W → Rd W v (bv l) → l.length ≤ 562949953421312 → Calls Tryd.prog 43 #[v] W fun e w' => e = .returned (.agg (bv (mk l)).toArray) ∧ Kp [] W w')
    (h : LW w W F t most T g ls tv l) {p : List UInt8} (hp : p.length ≤ 140737488351232) {v : Value} {b : List UInt8} (hv : Rd W v (bv b)) (hb : b.length ≤ 211106232532992) {r : (Int × Bool × Int) × List Ent} (hr : addE mk most T p b = r) :
    Calls Tryd.prog 26 #[.pointer (some ⟨t, 0, none⟩), .string (strOf p), v] W fun e w' =>
      e = .returned (.tuple #[.int .u32 r.1.1, .bool r.1.2.1, .int .i64 r.1.2.2]) ∧ LW w w' (Fn F W w') t most r.2 g ls tv l ∧ ∃ L, (∀ b ∈ L, F b) ∧ Kp L W w' := by
  subst hr
  exact (add_any mk F t most T p v b W h.tr hp hv hb (fun W' v l k => mc W' v l (h.k.trans0 k)) ml).mono fun e w' ⟨h1, L, h2, h3, h4⟩ => ⟨h1, h.fn h2 h3 h4, L, h3, h4⟩
theorem lw_missing (h : LW w W F t most T g ls tv l) {p : List UInt8} (hp : p.length ≤ 140737488351232) {id : Int} (h0 : 0 ≤ id) (h1 : id < 4294967296) {r : List Nat × Int} (hr : missP T (p, id) = r) :
    Calls Tryd.prog 27 #[.pointer (some ⟨t, 0, none⟩), .string (strOf p), .int .u32 id] W fun e w' => ∃ v, e = .returned (.tuple #[v, .int .i64 r.2]) ∧ Own w' W.heap.size 3 v (nv r.1) ∧ LW w w' F t most T g ls tv l ∧ Kp [] W w' := by
  subst hr
  exact (missing_tray F t most T p id W h.tr hp h0 h1).mono fun e w' ⟨v, h2, h3, h4⟩ => ⟨v, h2, h3, h.kp0 h4, h4⟩
theorem lw_take (h : LW w W F t most T g ls tv l) {p : List UInt8} (hp : p.length ≤ 140737488351232) {id : Int} (h0 : 0 ≤ id) (h1 : id < 4294967296) {r : (List UInt8 × Int) × List Ent} (hr : takeP T (p, id) = r) :
    Calls Tryd.prog 28 #[.pointer (some ⟨t, 0, none⟩), .string (strOf p), .int .u32 id] W fun e w' => ∃ v, e = .returned (.tuple #[v, .int .i64 r.1.2]) ∧ Cut w' W.heap.size v r.1.1 ∧ LW w w' F t most r.2 g ls tv l ∧ ∃ L, (∀ b ∈ L, F b) ∧ Kp L W w' := by
  subst hr
  exact (take_tray F t most T p id W h.tr hp h0 h1).mono fun e w' ⟨v, L, h2, h3, h4, h5, h6⟩ => ⟨v, h2, h3, h.same h4 h5 h6, L, h5, h6⟩
end
def bob : List UInt8 := [98, 111, 98]
theorem bob_ok : peerErr bob.length = 0 := rfl
theorem bob_len : bob.length ≤ 140737488351232 := by show 3 ≤ _; omega
/-- a slice's length -/
def lenOf : Value → Nat
  | .slice _ n _ => n
  | _ => 0
theorem nv_one (l : List Nat) : ∀ u ∈ nv l, u.oneCell' = true := by
  intro u hu
  obtain ⟨_, _, rfl⟩ := List.mem_map.1 hu
  rfl
theorem Rd.num {w : World} {ao : Option Addr} {n cap : Nat} {l : List Nat} (h : Rd w (.slice ao n cap) (nv l)) {k x : Nat} (hk : l[k]? = some x) :
    ∃ b off, ao = some ⟨b, off, none⟩ ∧ w.cell? ⟨b, off + k, none⟩ = some (.int .i64 x) := by
  have hlt := (List.getElem?_eq_some_iff.1 hk).1
  have hn := h.len
  rw [nv_len] at hn
  obtain ⟨b, off, ha, hx, hc⟩ := h.at (k := k) (by omega)
  refine ⟨b, off, ha, ?_⟩
  rw [hc]
  have h2 : (nv l)[k]? = some (.int .i64 (x : Int)) := by unfold nv; rw [List.getElem?_map, hk]; rfl
  rw [List.getElem?_eq_getElem hx] at h2
  exact h2
theorem Rd.zint {w : World} {ao : Option Addr} {n cap : Nat} {l : List Int} (h : Rd w (.slice ao n cap) (zv l)) {k : Nat} (hk : k < l.length) :
    ∃ b off, ao = some ⟨b, off, none⟩ ∧ w.cell? ⟨b, off + k, none⟩ = some (.int .i64 l[k]) := by
  have hn := h.len
  rw [zv_len] at hn
  obtain ⟨b, off, ha, hx, hc⟩ := h.at (k := k) (by omega)
  refine ⟨b, off, ha, ?_⟩
  rw [hc]
  have h2 : (zv l)[k]? = some (.int .i64 l[k]) := by unfold zv; rw [List.getElem?_map, List.getElem?_eq_getElem hk]; rfl
  rw [List.getElem?_eq_getElem hx] at h2
  exact h2
end Go.Proofs.YtkceaepbjdfccaaDoor
/-
What a law over a tray and several slices holds; its calls. The plain steps of 'ParcelApart'.
-/
namespace Go.Proofs.YtkceaepbjdfccaaDoor
open Go.RowKit
/-- a tray, slices of slices and slices that it does not meet -/
structure LX (w W : World) (F : Nat → Prop) (t : Nat) (most : Int) (T : List Ent) (P : List (Nat × List (List UInt8))) (R : List (Value × List UInt8)) : Prop where
  k : Kp [] w W
  tr : TR W F t most T
  pq : ∀ p ∈ P, Pq W F p.1 p.2
  rs : ∀ r ∈ R, Rs W F r.1 r.2
  fw : ∀ b, F b → w.heap.size ≤ b
section
variable {w W W' : World} {F : Nat → Prop} {t : Nat} {most : Int} {T T' : List Ent} {P : List (Nat × List (List UInt8))} {R : List (Value × List UInt8)}
theorem LX.kp0 (h : LX w W F t most T P R) (k : Kp [] W W') : LX w W' F t most T P R :=
  ⟨h.k.trans0 k, h.tr.kp0 k, fun p hp => (h.pq p hp).kp0 k, fun r hr => (h.rs r hr).kp0 k, h.fw⟩
theorem LX.kL (h : LX w W F t most T P R) {L : List Nat} (k : Kp L W W') (hL : ∀ b ∈ L, F b) : Kp [] w W' :=
  h.k.trans k (fun m hm => .inr (h.fw m (hL m hm)))
theorem LX.fn (h : LX w W F t most T P R) {L : List Nat} (tr : TR W' (Fn F W W') t most T') (hL : ∀ b ∈ L, F b) (k : Kp L W W') : LX w W' (Fn F W W') t most T' P R :=
  ⟨h.kL k hL, tr, fun p hp => (h.pq p hp).fn k hL, fun r hr => (h.rs r hr).fn k hL, fun b hb => by
    rcases hb with hb | hb
    · exact h.fw b hb
    · have := h.k.size; omega⟩
theorem LX.same (h : LX w W F t most T P R) {L : List Nat} (tr : TR W' F t most T') (hL : ∀ b ∈ L, F b) (k : Kp L W W') : LX w W' F t most T' P R :=
  ⟨h.kL k hL, tr, fun p hp => (h.pq p hp).kp k hL, fun r hr => (h.rs r hr).kp k hL, h.fw⟩
theorem LX.more (h : LX w W F t most T P R) {v : Value} {l : List UInt8} (hr : Rs W F v l) : LX w W F t most T P ((v, l) :: R) :=
  ⟨h.k, h.tr, h.pq, fun r hm => by rcases List.mem_cons.1 hm with rfl | hm; exact hr; exact h.rs r hm, h.fw⟩
theorem LX.moreP (h : LX w W F t most T P R) {g : Nat} {ls : List (List UInt8)} (hr : Pq W F g ls) : LX w W F t most T ((g, ls) :: P) R :=
  ⟨h.k, h.tr, fun p hm => by rcases List.mem_cons.1 hm with rfl | hm; exact hr; exact h.pq p hm, h.rs, h.fw⟩
theorem lx_add {mk : List UInt8 → List UInt8} (ml : ∀ l, (mk l).length = 8) (mc : ∀ W v l, Kp [] w W → Rd W v (bv l) → l.length ≤ 562949953421312 → Calls Tryd.prog 43 #[v] W fun e w' => e = .returned (.agg (bv (mk l)).toArray) ∧ Kp [] W w')
    (h : LX w W F t most T P R) {p : List UInt8} (hp : p.length ≤ 140737488351232) {v : Value} {b : List UInt8} (hv : Rd W v (bv b)) (hb : b.length ≤ 211106232532992) {r : (Int × Bool × Int) × List Ent} (hr : addE mk most T p b = r) :
    Calls Tryd.prog 26 #[.pointer (some ⟨t, 0, none⟩), .string (strOf p), v] W fun e w' =>
      e = .returned (.tuple #[.int .u32 r.1.1, .bool r.1.2.1, .int .i64 r.1.2.2]) ∧ LX w w' (Fn F W w') t most r.2 P R ∧ ∃ L, (∀ b ∈ L, F b) ∧ Kp L W w' := by
  subst hr
  exact (add_any mk F t most T p v b W h.tr hp hv hb (fun W' v l k => mc W' v l (h.k.trans0 k)) ml).mono fun e w' ⟨h1, L, h2, h3, h4⟩ => ⟨h1, h.fn h2 h3 h4, L, h3, h4⟩
theorem lx_missing (h : LX w W F t most T P R) {p : List UInt8} (hp : p.length ≤ 140737488351232) {id : Int} (h0 : 0 ≤ id) (h1 : id < 4294967296) {r : List Nat × Int} (hr : missP T (p, id) = r) :
    Calls Tryd.prog 27 #[.pointer (some ⟨t, 0, none⟩), .string (strOf p), .int .u32 id] W fun e w' => ∃ v, e = .returned (.tuple #[v, .int .i64 r.2]) ∧ Own w' W.heap.size 3 v (nv r.1) ∧ LX w w' F t most T P R ∧ Kp [] W w' := by
  subst hr
  exact (missing_tray F t most T p id W h.tr hp h0 h1).mono fun e w' ⟨v, h2, h3, h4⟩ => ⟨v, h2, h3, h.kp0 h4, h4⟩
theorem lx_take (h : LX w W F t most T P R) {p : List UInt8} (hp : p.length ≤ 140737488351232) {id : Int} (h0 : 0 ≤ id) (h1 : id < 4294967296) {r : (List UInt8 × Int) × List Ent} (hr : takeP T (p, id) = r) :
    Calls Tryd.prog 28 #[.pointer (some ⟨t, 0, none⟩), .string (strOf p), .int .u32 id] W fun e w' => ∃ v, e = .returned (.tuple #[v, .int .i64 r.1.2]) ∧ Cut w' W.heap.size v r.1.1 ∧ LX w w' F t most r.2 P R ∧ ∃ L, (∀ b ∈ L, F b) ∧ Kp L W w' := by
  subst hr
  exact (take_tray F t most T p id W h.tr hp h0 h1).mono fun e w' ⟨v, L, h2, h3, h4, h5, h6⟩ => ⟨v, h2, h3, h.same h4 h5 h6, L, h5, h6⟩
end
def eve : List UInt8 := [101, 118, 101]
def joe : List UInt8 := [106, 111, 101]
/-- a part with other bytes of content -/
def partC (mk : List UInt8 → List UInt8) (id : Int) (l c : List UInt8) (i : Nat) : List UInt8 :=
  [lo8 5] ++ be32 id ++ [lo8 (cntP l.length : Int)] ++ [lo8 (i : Int)] ++ (mk l ++ c)
theorem partM_C (mk : List UInt8 → List UInt8) (id : Int) (l : List UInt8) (i : Nat) : partM mk id l i = partC mk id l (contP l i) i := rfl
theorem readL_C {mk : List UInt8 → List UInt8} (hm : ∀ l, (mk l).length = 8) {id : Int} (h0 : 0 ≤ id) (h1 : id < 4294967296) {l c : List UInt8} (hl : l.length ≤ 31808) {i : Nat} (hi : i < cntP l.length) (hc : c.length = (contP l i).length) :
    readL (partC mk id l c i) = some ⟨id, (cntP l.length : Int), (i : Int), mk l, c⟩ := by
  have h8 := hm l
  have hlen : (partC mk id l c i).length = 15 + c.length := by
    unfold partC
    simp only [List.length_append, h8, be32, List.length_cons, List.length_nil]
    omega
  have hcs := cntP_small hl
  have hcc := contP_length l i
  obtain ⟨e1, e2, e3, e4, e5, e6⟩ := rs_long (b := partC mk id l c i) (by omega)
  have d1 : (partC mk id l c i).drop 15 = c := by
    show ((mk l ++ c)).drop 8 = c
    rw [List.drop_append_of_le_length (by omega), List.drop_of_length_le (by omega)]
    rfl
  have d2 : ((partC mk id l c i).drop 7).take 8 = mk l := by
    show ((mk l ++ c)).take 8 = mk l
    rw [List.take_append_of_le_length (by omega), List.take_of_length_le (by omega)]
  have n1 : numL (rs1 (partC mk id l c i)).1 = 5 := by rw [e1]; exact num8' 5 (by decide) (by decide)
  have n2 : numL (rs2 (partC mk id l c i)).1 = id := by rw [e2]; exact num32' id h0 h1
  have n3 : numL (rs3 (partC mk id l c i)).1 = (cntP l.length : Int) := by rw [e3]; exact num8' _ (by omega) (by omega)
  have n4 : numL (rs4 (partC mk id l c i)).1 = (i : Int) := by rw [e4]; exact num8' _ (by omega) (by omega)
  have n5 : (rs5 (partC mk id l c i)).1 = mk l := by rw [e5]; exact d2
  have n6 : (rs6 (partC mk id l c i)).1 = c := by rw [e6]; exact d1
  have hcd : cntP l.length = max 1 ((l.length + 496) / 497) := rfl
  rw [readL_some (by rw [e5]) n1 (by rw [n3]; omega) (by rw [n3]; omega) (by rw [n3, n4]; omega) (by rw [n6]; omega) (fun hh => by rw [n3, n4] at hh; rw [n6]; omega) (fun hh => by rw [n6] at hh; rw [n3]; omega)]
  unfold prtOf
  rw [n2, n3, n4, n5, n6]
/-- a byte of a slice of one's own, to be written -/
theorem Own.slot {w : World} {B n c : Nat} {a : Option Addr} {l : List UInt8} (h : Own w B 5 (.slice a n c) (bv l)) {k : Nat} (hk : k < l.length) :
    ∃ g, a = some ⟨g, 0, none⟩ ∧ w.cell? ⟨g, k, none⟩ = some (.int .u8 (l[k].toNat : Int)) ∧ w.frozen? ⟨g, k, none⟩ = false ∧ B ≤ g ∧ g < w.heap.size ∧ ∀ u : UInt8, Own (w.setCell ⟨g, k, none⟩ (bval u)) B 5 (.slice a n c) (bv (l.set k u)) := by
  have hn := h.rd.len
  rw [bv_length] at hn
  rcases h.2 with ⟨h1, h2⟩ | ⟨g, cap, cur, hv, hb, hg, h1, h2, h3, h4⟩
  · rw [bv_length] at h2; omega
  · simp only [Value.slice.injEq] at hv
    obtain ⟨rfl, _, rfl⟩ := hv
    have hc : w.cell? ⟨g, k, none⟩ = some (.int .u8 (l[k].toNat : Int)) := by
      have := h.rd
      obtain ⟨b, off, ha, hx, hcc⟩ := (show Rd w (.slice (some ⟨g, 0, none⟩) n c) (bv l) from this).byte (k := k) (by omega)
      simp only [Option.some.injEq, Addr.mk.injEq] at ha
      obtain ⟨rfl, rfl, _⟩ := ha
      rw [Nat.zero_add] at hcc
      exact hcc
    refine ⟨g, rfl, hc, frozen_of_row w g k _ _ hg, hb, (Array.getElem?_eq_some_iff.1 hg).1, fun u => ⟨by simp [bv_length], .inr ⟨g, c, cur.setIfInBounds k (bval u), by rw [bv_length, List.length_set]; simp [hn], hb, heap_setCell_same w g k _ _ _ hg, by rw [bv_length, List.length_set, ← hn]; rw [bv_length, ← hn] at h1; exact h1, h2, by simpa using h3, ?_⟩⟩⟩
    rw [bv_length, List.length_set, Array.toList_setIfInBounds, List.take_set]
    rw [bv_length] at h4
    rw [h4]
    simp [bv, List.map_set]
/-! two peers under one id, two parts each -/
section
variable {mk : List UInt8 → List UInt8} (hm : ∀ l, (mk l).length = 8) {id : Int} (h0 : 0 ≤ id) (h1 : id < 4294967296) {A B : List UInt8} (hA : 498 ≤ A.length ∧ A.length ≤ 897) (hB : B.length = A.length)
include hA in
theorem cnt2 : cntP A.length = 2 := by unfold cntP; omega
include hA in
theorem text2 (c : List UInt8) : textL [some (contP A 0), some c] = A.take 497 ++ c ∧ textL [some (contP A 0), some (contP A 1)] = A := by
  have e0 : contP A 0 = A.take 497 := by simp [contP]
  have e1 : contP A 1 = A.drop 497 := by unfold contP; exact List.take_of_length_le (by rw [List.length_drop]; omega)
  constructor
  · simp [textL, e0]
  · simp [textL, e0, e1]
def EA (mk : List UInt8 → List UInt8) (id : Int) (A : List UInt8) (p : List UInt8) (c : Option (List UInt8)) : Ent := ⟨p, id, mk A, [some (contP A 0), c]⟩
include hm h0 h1 hA in
theorem ap1 : addE mk 2 [] bob (partM mk id A 0) = ((id, false, 0), [EA mk id A bob none]) := by
  have hc := cnt2 hA
  unfold addE
  rw [if_neg (by decide), readL_part hm h0 h1 (by omega) (by omega), hc]
  rfl
include hm h0 h1 hA hB in
theorem ap2 : addE mk 2 [EA mk id A bob none] eve (partM mk id B 0) = ((id, false, 0), [EA mk id A bob none, EA mk id B eve none]) := by
  have hc : cntP B.length = 2 := by rw [hB]; exact cnt2 hA
  unfold addE
  rw [if_neg (by decide), readL_part hm h0 h1 (by omega) (by omega), hc]
  have hf : findE [EA mk id A bob none] (eve, id) = none := by simp [findE, EA, Ent.ky, bob, eve]
  simp only
  rw [hf]
  rfl
include hm h0 h1 hA hB in
theorem ap3 : addE mk 2 [EA mk id A bob none, EA mk id B eve none] joe (partM mk id B 0) = ((0, false, 120), [EA mk id A bob none, EA mk id B eve none]) := by
  have hc : cntP B.length = 2 := by rw [hB]; exact cnt2 hA
  unfold addE
  rw [if_neg (by decide), readL_part hm h0 h1 (by omega) (by omega), hc]
  have hf : findE [EA mk id A bob none, EA mk id B eve none] (joe, id) = none := by simp [findE, EA, Ent.ky, bob, eve, joe]
  simp only
  rw [hf]
  rfl
include hm h0 h1 hA hB in
theorem ap4 (hne : mk A ≠ mk B) : addE mk 2 [EA mk id A bob none, EA mk id B eve none] bob (partM mk id B 1) = ((0, false, 260), [EA mk id A bob none, EA mk id B eve none]) := by
  have hc : cntP B.length = 2 := by rw [hB]; exact cnt2 hA
  unfold addE
  rw [if_neg (by decide), readL_part hm h0 h1 (by omega) (by omega), hc]
  have hf : findE [EA mk id A bob none, EA mk id B eve none] (bob, id) = some (EA mk id A bob none) := by simp [findE, EA, Ent.ky]
  simp only
  rw [hf]
  simp only
  rw [if_pos (.inr hne)]
include hm h0 h1 hA in
theorem ap5 {c : List UInt8} (hc : c.length = (contP A 1).length) (hne : mk (A.take 497 ++ c) ≠ mk A) : addE mk 2 [EA mk id A bob none, EA mk id B eve none] bob (partC mk id A c 1) = ((0, false, 101), [EA mk id A bob none, EA mk id B eve none]) := by
  have h2 := cnt2 hA
  unfold addE
  rw [if_neg (by decide), readL_C hm h0 h1 (by omega) (by omega) hc, h2]
  have hf : findE [EA mk id A bob none, EA mk id B eve none] (bob, id) = some (EA mk id A bob none) := by simp [findE, EA, Ent.ky]
  simp only
  rw [hf]
  simp only
  rw [if_neg (by rintro (h | h); exact h rfl; exact h rfl), if_neg (fun h => h rfl), if_pos ⟨rfl, (by rw [(text2 hA c).1]; exact hne : mk (textL [some (contP A 0), some c]) ≠ mk A)⟩]
include hm h0 h1 hA in
theorem ap6 : addE mk 2 [EA mk id A bob none, EA mk id B eve none] bob (partM mk id A 1) = ((id, true, 0), [EA mk id A bob (some (contP A 1)), EA mk id B eve none]) := by
  have h2 := cnt2 hA
  unfold addE
  rw [if_neg (by decide), readL_part hm h0 h1 (by omega) (by omega), h2]
  have hf : findE [EA mk id A bob none, EA mk id B eve none] (bob, id) = some (EA mk id A bob none) := by simp [findE, EA, Ent.ky]
  simp only
  rw [hf]
  simp only
  rw [if_neg (by rintro (h | h); exact h rfl; exact h rfl), if_neg (fun h => h rfl), if_neg ?_]
  · refine Prod.ext rfl ?_
    show setE [EA mk id A bob none, EA mk id B eve none] (bob, id) 1 (contP A 1) = _
    simp [setE, EA, Ent.ky, bob, eve]
  · rintro ⟨_, h⟩
    apply h
    show mk (textL [some (contP A 0), some (contP A 1)]) = mk A
    rw [(text2 hA []).2]
include hm h0 h1 hA hB in
theorem ap7 : addE mk 2 [EA mk id A bob (some (contP A 1)), EA mk id B eve none] eve (partM mk id B 1) = ((id, true, 0), [EA mk id A bob (some (contP A 1)), EA mk id B eve (some (contP B 1))]) := by
  have hB' : 498 ≤ B.length ∧ B.length ≤ 897 := by rw [hB]; exact hA
  have h2 := cnt2 hB'
  unfold addE
  rw [if_neg (by decide), readL_part hm h0 h1 (by omega) (by omega), h2]
  have hf : findE [EA mk id A bob (some (contP A 1)), EA mk id B eve none] (eve, id) = some (EA mk id B eve none) := by simp [findE, EA, Ent.ky, bob, eve]
  simp only
  rw [hf]
  simp only
  rw [if_neg (by rintro (h | h); exact h rfl; exact h rfl), if_neg (fun h => h rfl), if_neg ?_]
  · refine Prod.ext rfl ?_
    show setE [EA mk id A bob (some (contP A 1)), EA mk id B eve none] (eve, id) 1 (contP B 1) = _
    simp [setE, EA, Ent.ky, bob, eve]
  · rintro ⟨_, h⟩
    apply h
    show mk (textL [some (contP B 0), some (contP B 1)]) = mk B
    rw [(text2 hB' []).2]
include hA in
theorem ap8 : takeP [EA mk id A bob (some (contP A 1)), EA mk id B eve (some (contP B 1))] (bob, id) = ((A, 0), [EA mk id B eve (some (contP B 1))]) := by
  unfold takeP
  have hf : findE [EA mk id A bob (some (contP A 1)), EA mk id B eve (some (contP B 1))] (bob, id) = some (EA mk id A bob (some (contP A 1))) := by simp [findE, EA, Ent.ky]
  have hp : ¬ peerErr ((bob, id) : Ky).1.length ≠ 0 := (by decide : ¬ peerErr 3 ≠ 0)
  rw [if_neg hp, hf]
  simp only
  rw [if_neg (by show ¬ 0 < 0; omega)]
  have ht : textL (EA mk id A bob (some (contP A 1))).parts = A := (text2 hA []).2
  rw [ht]
  simp [EA, Ent.ky, bob, eve]
include hA hB in
theorem ap9 : takeP [EA mk id B eve (some (contP B 1))] (eve, id) = ((B, 0), []) := by
  have hB' : 498 ≤ B.length ∧ B.length ≤ 897 := by rw [hB]; exact hA
  unfold takeP
  have hf : findE [EA mk id B eve (some (contP B 1))] (eve, id) = some (EA mk id B eve (some (contP B 1))) := by simp [findE, EA, Ent.ky]
  have hp : ¬ peerErr ((eve, id) : Ky).1.length ≠ 0 := (by decide : ¬ peerErr 3 ≠ 0)
  rw [if_neg hp, hf]
  simp only
  rw [if_neg (by show ¬ 0 < 0; omega)]
  have ht : textL (EA mk id B eve (some (contP B 1))).parts = B := (text2 hB' []).2
  rw [ht]
  simp [EA, Ent.ky]
end
end Go.Proofs.YtkceaepbjdfccaaDoor
/-
The plain steps of 'ParcelHands'; slices of bytes that are written over; sameParts.
-/
namespace Go.Proofs.YtkceaepbjdfccaaDoor
open Go.RowKit
theorem addE_more {mk : List UInt8 → List UInt8} {m1 m2 : Int} (h : m1 ≤ m2) {T : List Ent} {p b : List UInt8} {r : (Int × Bool × Int) × List Ent} (h1 : addE mk m1 T p b = r) (hne : r.1.2.2 ≠ 120) : addE mk m2 T p b = r := by
  subst h1
  revert hne
  unfold addE
  by_cases hp : peerErr p.length ≠ 0
  · rw [if_pos hp, if_pos hp]; intro _; rfl
  · rw [if_neg hp, if_neg hp]
    cases hr : readL b with
    | none => intro _; rfl
    | some q =>
      simp only
      cases hf : findE T (p, q.id) with
      | some e => intro _; rfl
      | none =>
        simp only
        by_cases hm : m1 ≤ T.length
        · rw [if_pos hm]; intro h; exact absurd rfl h
        · rw [if_neg hm, if_neg (show ¬ m2 ≤ (T.length : Int) by omega)]; intro _; rfl
theorem missL_range (l : List UInt8) {n k : Nat} (hk : k ≤ n) : missL (psOf l n (List.range' k (n - k))) = List.range' k (n - k) := by
  unfold missL missT
  rw [psOf_len]
  have h1 : ∀ i, i < n → ((psOf l n (List.range' k (n - k))).getD i none).isNone = decide (k ≤ i) := fun i hi => by
    rw [List.getD, psOf_get l _ hi]
    by_cases hki : k ≤ i
    · rw [if_pos (by rw [List.mem_range'_1]; omega)]; simp [hki]
    · rw [if_neg (by rw [List.mem_range'_1]; omega)]; simp [hki]
  have h2 : (List.range n).filter (fun i => ((psOf l n (List.range' k (n - k))).getD i none).isNone) = (List.range n).filter (fun i => decide (k ≤ i)) := List.filter_congr (fun i hi => h1 i (List.mem_range.1 hi))
  rw [h2, List.range_eq_range', show List.range' 0 n = List.range' 0 k ++ List.range' k (n - k) by have e := List.range'_append_1 (s := 0) (m := k) (n := n - k); rw [Nat.zero_add, Nat.add_sub_cancel' hk] at e; exact e.symm, List.filter_append]
  rw [List.filter_eq_nil_iff.2 (by intro i hi; rw [List.mem_range'_1] at hi; simp; omega), List.filter_eq_self.2 (by intro i hi; rw [List.mem_range'_1] at hi; simp; omega), List.nil_append]
def peerX : List UInt8 := [120]
theorem peerX_ok : peerErr peerX.length = 0 := rfl
theorem peerX_len : peerX.length ≤ 140737488351232 := by show 1 ≤ _; omega
/-- the tray when k parts are in -/
def TH (mk : List UInt8 → List UInt8) (id : Int) (l : List UInt8) (k : Nat) : List Ent := Tof mk id l peerX (List.range' k (cntP l.length - k))
section
variable {mk : List UInt8 → List UInt8} (hm : ∀ l, (mk l).length = 8) {id : Int} (h0 : 0 ≤ id) (h1 : id < 4294967296) {l : List UInt8} (hl : l.length ≤ 31808)
theorem th0 : TH mk id l 0 = [] := by
  unfold TH Tof
  rw [if_pos]
  rw [List.range_eq_range']; rfl
include hm h0 h1 hl in
theorem th_add {k : Nat} (hk : k < cntP l.length) : addE mk 2 (TH mk id l k) peerX (partM mk id l k) = ((id, decide (cntP l.length - (k + 1) = 0), 0), TH mk id l (k + 1)) := by
  have hg : (List.range' k (cntP l.length - k))[0]? = some k := by rw [List.getElem?_range' (by omega)]; simp
  have he : (List.range' k (cntP l.length - k)).eraseIdx 0 = List.range' (k + 1) (cntP l.length - (k + 1)) := by
    rw [show cntP l.length - k = (cntP l.length - (k + 1)) + 1 by omega, List.range'_succ]; rfl
  have := add_step hm h0 h1 hl peerX_ok (left := List.range' k (cntP l.length - k)) List.nodup_range' (fun i hi => by rw [List.mem_range'_1] at hi; omega) hg
  rw [he] at this
  refine addE_more (m1 := 1) (by omega) ?_ (show (0 : Int) ≠ 120 by decide)
  rw [List.length_range'] at this
  exact this
theorem th_miss {k : Nat} (hk : k < cntP l.length) : missP (TH mk id l (k + 1)) (peerX, id) = (List.range' (k + 1) (cntP l.length - (k + 1)), 0) := by
  unfold TH
  rw [miss_step peerX_ok, missL_range l (by omega)]
  intro e
  have := congrArg List.length e
  rw [List.length_range', List.length_range] at this
  omega
include hl in
theorem th_take : takeP (TH mk id l (cntP l.length)) (peerX, id) = ((l, 0), []) := by
  unfold TH
  rw [Nat.sub_self]
  exact take_all hl peerX_ok
end
/-! slices that are written over -/
theorem lo8_val (n : Int) : Value.int .u8 (n % 256) = bval (lo8 n) := (bval_lo8 n).symm
/-- a cell of a slice of one's own, to be written -/
theorem Own.slotV {w : World} {B n c : Nat} {e : TypeId} {a : Option Addr} {xs : List Value} (h : Own w B e (.slice a n c) xs) {k : Nat} (hk : k < xs.length) :
    ∃ g, a = some ⟨g, 0, none⟩ ∧ w.cell? ⟨g, k, none⟩ = some xs[k] ∧ w.frozen? ⟨g, k, none⟩ = false ∧ B ≤ g ∧ g < w.heap.size ∧ ∀ u : Value, Own (w.setCell ⟨g, k, none⟩ u) B e (.slice a n c) (xs.set k u) := by
  have hn := h.rd.len
  rcases h.2 with ⟨h1, h2⟩ | ⟨g, cap, cur, hv, hb, hg, h1, h2, h3, h4⟩
  · omega
  · simp only [Value.slice.injEq] at hv
    obtain ⟨rfl, _, rfl⟩ := hv
    have hc : w.cell? ⟨g, k, none⟩ = some xs[k] := by
      obtain ⟨b, off, ha, hx, hcc⟩ := h.rd.at (k := k) (by omega)
      simp only [Option.some.injEq, Addr.mk.injEq] at ha
      obtain ⟨rfl, rfl, _⟩ := ha
      rw [Nat.zero_add] at hcc
      exact hcc
    refine ⟨g, rfl, hc, frozen_of_row w g k _ _ hg, hb, (Array.getElem?_eq_some_iff.1 hg).1, fun u => ⟨by simp, .inr ⟨g, c, cur.setIfInBounds k u, by rw [List.length_set]; simp [hn], hb, heap_setCell_same w g k _ _ _ hg, by rw [List.length_set, ← hn]; rw [← hn] at h1; exact h1, h2, by simpa using h3, ?_⟩⟩⟩
    rw [List.length_set, Array.toList_setIfInBounds, List.take_set, h4]
/-- a byte of a cut slice, to be written -/
theorem Cut.slot {w : World} {B n c : Nat} {a : Option Addr} {l : List UInt8} (h : Cut w B (.slice a n c) l) {k : Nat} (hk : k < l.length) :
    ∃ g, a = some ⟨g, 0, none⟩ ∧ w.cell? ⟨g, k, none⟩ = some (.int .u8 (l[k].toNat : Int)) ∧ w.frozen? ⟨g, k, none⟩ = false ∧ B ≤ g ∧ g < w.heap.size ∧ ∀ u : UInt8, Cut (w.setCell ⟨g, k, none⟩ (bval u)) B (.slice a n c) (l.set k u) := by
  have hrd := h.rd
  rcases h with ⟨_, h2⟩ | ⟨g, cur, hv, hb, hg, h1, h4⟩
  · subst h2; simp at hk
  · simp only [Value.slice.injEq] at hv
    obtain ⟨rfl, rfl, rfl⟩ := hv
    have hc : w.cell? ⟨g, k, none⟩ = some (.int .u8 (l[k].toNat : Int)) := by
      obtain ⟨b, off, ha, hx, hcc⟩ := hrd.byte (k := k) (by omega)
      simp only [Option.some.injEq, Addr.mk.injEq] at ha
      obtain ⟨rfl, rfl, _⟩ := ha
      rw [Nat.zero_add] at hcc
      exact hcc
    refine ⟨g, rfl, hc, frozen_of_row w g k _ _ hg, hb, (Array.getElem?_eq_some_iff.1 hg).1, fun u => .inr ⟨g, cur.setIfInBounds k (bval u), by rw [List.length_set], hb, heap_setCell_same w g k _ _ _ hg, by rw [List.length_set]; simpa using h1, ?_⟩⟩
    rw [List.length_set, Array.toList_setIfInBounds, List.take_set, h4]
    simp [bv, List.map_set]
/-- slices of their own, apart, with no spare room, in blocks below U -/
def PtsU (w : World) (B U : Nat) (v : Value) (ls : List (List UInt8)) : Prop :=
  ∃ vals : List Value, Own w B 27 v vals ∧ vals.length = ls.length ∧
    (∀ (j : Nat) (x : Value) (p : List UInt8), vals[j]? = some x → ls[j]? = some p → Own w B 5 x (bv p) ∧ ∃ g, x = .slice (some ⟨g, 0, none⟩) p.length p.length ∧ g < U) ∧
    ∀ (i j : Nat) (x y : Value) (b : Nat), vals[i]? = some x → vals[j]? = some y → x.ownBlock = some b → y.ownBlock = some b → i = j
theorem PtsD.u {w : World} {B : Nat} {v : Value} {ls : List (List UInt8)} (h : PtsD w B v ls) : PtsU w B w.heap.size v ls := by
  obtain ⟨vals, h1, h2, h3, h4⟩ := h
  refine ⟨vals, h1, h2, fun j x p hx hp => ?_, h4⟩
  obtain ⟨h5, g, rfl⟩ := h3 j x p hx hp
  exact ⟨h5, g, rfl, (h5.lt rfl).2⟩
theorem PtsU.kp {w w' : World} {B U : Nat} {v : Value} {ls : List (List UInt8)} (h : PtsU w B U v ls) (k : Kp [] w w') : PtsU w' B U v ls := by
  obtain ⟨vals, h1, h2, h3, h4⟩ := h
  exact ⟨vals, h1.kp0 k, h2, fun j x p hx hp => ⟨(h3 j x p hx hp).1.kp0 k, (h3 j x p hx hp).2⟩, h4⟩
theorem PtsU.pts {w : World} {B U : Nat} {v : Value} {ls : List (List UInt8)} (h : PtsU w B U v ls) : Pts w B v ls := by
  obtain ⟨vals, h1, h2, h3, _⟩ := h
  exact ⟨vals, h1, h2, fun j x p hx hp => ⟨(h3 j x p hx hp).1, by obtain ⟨_, g, rfl, _⟩ := h3 j x p hx hp; rfl⟩⟩
theorem PtsU.at {w : World} {B U n c : Nat} {a : Option Addr} {ls : List (List UInt8)} (h : PtsU w B U (.slice a n c) ls) {k : Nat} {p : List UInt8} (hk : ls[k]? = some p) :
    ∃ g gx, a = some ⟨g, 0, none⟩ ∧ w.cell? ⟨g, k, none⟩ = some (.slice (some ⟨gx, 0, none⟩) p.length p.length) ∧ B ≤ gx ∧ gx < U ∧ gx < w.heap.size ∧ Rd w (.slice (some ⟨gx, 0, none⟩) p.length p.length) (bv p) ∧
      ∀ i, i < p.length → (∃ x, w.cell? ⟨gx, i, none⟩ = some (.int .u8 x)) ∧ w.frozen? ⟨gx, i, none⟩ = false ∧ ∀ u : UInt8, PtsU (w.setCell ⟨gx, i, none⟩ (bval u)) B U (.slice a n c) (ls.set k (p.set i u)) := by
  obtain ⟨vals, h1, h2, h3, h4⟩ := h
  have hlt := (List.getElem?_eq_some_iff.1 hk).1
  have hv : vals[k]? = some vals[k] := List.getElem?_eq_getElem (by omega)
  obtain ⟨ho, gx, hx, hU⟩ := h3 k _ p hv hk
  rw [hx] at hv ho
  obtain ⟨g, ha, hc, _, _, _, _⟩ := h1.slotV (k := k) (by omega)
  rw [hx] at hc
  obtain ⟨hB1, hB2⟩ := ho.lt rfl
  refine ⟨g, gx, ha, hc, hB1, hU, hB2, ho.rd, fun i hi => ?_⟩
  obtain ⟨g', hg', hc', hf', _, _, hset⟩ := ho.slot hi
  simp only [Option.some.injEq, Addr.mk.injEq, and_true] at hg'
  subst hg'
  refine ⟨⟨_, hc'⟩, hf', fun u => ?_⟩
  have hkp : Kp [gx] w (w.setCell ⟨gx, i, none⟩ (bval u)) := (Kp.refl [gx] w).setCell (.inl (by simp)) _
  obtain ⟨cur, hcur⟩ := ho.block rfl
  refine ⟨vals, h1.kp hkp (fun b hb hm => ?_), by rw [List.length_set, h2], fun j x q hxj hqj => ?_, h4⟩
  · rw [List.mem_singleton] at hm
    subst hm
    exact h1.not_at hcur (by decide) hb
  · by_cases hj : k = j
    · subst hj
      rw [hv] at hxj
      cases hxj
      rw [List.getElem?_set_self hlt] at hqj
      cases hqj
      rw [List.length_set]
      exact ⟨hset u, gx, rfl, hU⟩
    · rw [List.getElem?_set_ne hj] at hqj
      obtain ⟨h5, g5, rfl, h6⟩ := h3 j x q hxj hqj
      refine ⟨h5.kp hkp (fun b hb hm => ?_), g5, rfl, h6⟩
      rw [List.mem_singleton] at hm
      subst hm
      exact hj (h4 k j _ _ b hv hxj rfl hb)
theorem Pts.kpB {w w' : World} {B : Nat} {L : List Nat} {v : Value} {ls : List (List UInt8)} (h : Pts w B v ls) (k : Kp L w w') (hL : ∀ b ∈ L, b < B) : Pts w' B v ls := by
  obtain ⟨vals, h1, h2, h3⟩ := h
  exact ⟨vals, h1.kp k (fun b hb hm => by have := (h1.lt hb).1; have := hL b hm; omega), h2, fun j x p hx hp => ⟨(h3 j x p hx hp).1.kp k (fun b hb hm => by have := ((h3 j x p hx hp).1.lt hb).1; have := hL b hm; omega), (h3 j x p hx hp).2⟩⟩
theorem Pts.rdd {w : World} {B : Nat} {v : Value} {ls : List (List UInt8)} (h : Pts w B v ls) : Rdd w v ls := by
  obtain ⟨vals, h1, h2, h3⟩ := h
  exact Rdd.of h1.rd h2 (fun i x l hx hl => (h3 i x l hx hl).1.rd)
theorem Pts.shapeN {W : World} {B : Nat} {v : Value} {ls : List (List UInt8)} (h : Pts W B v ls) (hne : ls ≠ []) : ∃ g c, v = .slice (some ⟨g, 0, none⟩) ls.length c ∧ Pq W (fun _ => False) g ls ∧ Rdd W (.slice (some ⟨g, 0, none⟩) ls.length c) ls := by
  obtain ⟨g, c, rfl, h2⟩ := h.shape hne
  exact ⟨g, c, rfl, h2 W _ (Kp.refl [] W) (fun b hb => hb.elim), h.rdd⟩
theorem over_step (p : List UInt8) (c : UInt8) {i : Nat} (hi : i < p.length) : (List.replicate i c ++ p.drop i).set i c = List.replicate (i + 1) c ++ p.drop (i + 1) := by
  rw [List.set_append_right _ _ (by simp), List.length_replicate, Nat.sub_self, List.drop_eq_getElem_cons hi, List.set_cons_zero, List.replicate_succ']
  simp
section
variable {P : Program} {w : World} {ops : Array Oper} {rest : List Oper} {o : Oper} {a : Act} {Q : Exit → Act → World → Prop} {K : Act → World → Prop} {t e : TypeId} {z : Value} {bytes : Nat}
/-- append onto a slice without spare room -/
theorem run_app_full (E : El P t e z bytes) (ty : TypeId) {ao : Option Addr} {n : Nat} {src : Value} {xs news : List Value} (h : Rd w (.slice ao n n) xs) (hsrc : Rd w src news) (hnn : 0 < news.length)
    (hl : xs.length + news.length ≤ 140737488355328) (hb : (xs.length + news.length) * bytes ≤ 140737488355328) (hne : ao ≠ none) :
    ∃ v' w', (Builtin.append_ #[t, t] ty #[.slice ao n n, src]).run P w = .ok v' w' ∧ Own w' w.heap.size e v' (xs ++ news) ∧ w.grownBy w' none := by
  obtain ⟨i, hi, hz0, hz1, hz2⟩ := info_parts E.hi
  have hlen := h.len
  obtain ⟨ao', cap', rfl, hc1, hc2, hc3⟩ := hsrc
  obtain ⟨a0, c0, he, _, _, h3⟩ := h
  simp only [Value.slice.injEq] at he
  obtain ⟨rfl, _, rfl⟩ := he
  cases ao' with
  | none => have := hc2 rfl; omega
  | some ad =>
    cases ao with
    | none => exact absurd rfl hne
    | some ax =>
      obtain ⟨v', w', hrun, r1, r2⟩ := run_append_arg_grows (P := P) w t ty e i z 1 bytes E.ht hi hz0 hz1 hz2 E.hz (by omega) ax n n xs (by simp [hlen]) (h3 _ rfl) ad news.length cap' news (by simp) (hc3 ad rfl) (by omega) (by unfold maxLen; omega) (by rw [hlen]; exact hb)
      have r1' : Own w' w.heap.size e v' (xs ++ news) := by unfold Own; rw [List.length_append, ← hlen]; exact r1
      exact ⟨v', w', hrun, r1', ⟨r2.os, r2.tape, r2.output, r2.size, fun k hk _ => r2.block k hk (by simp)⟩⟩
theorem wpl_append_full (E : El P t e z bytes) (hg : o.guard = none) (s x : Operand) (hop : o.op = Op.call { callee := Callee.builtin Builtin.append, args := #[s, x], argTypes := #[t, t] })
    {ao : Option Addr} {n : Nat} {src : Value} {xs news : List Value} (hs : a.eval s = .slice ao n n) (hx : a.eval x = src) (h : Rd w (.slice ao n n) xs) (hsrc : Rd w src news) (hnn : 0 < news.length)
    (hl : xs.length + news.length ≤ 140737488355328) (hb : (xs.length + news.length) * bytes ≤ 140737488355328) (hne : ao ≠ none)
    (hK : ∀ v' w', Own w' w.heap.size e v' (xs ++ news) → w.grownBy w' none → wpList P ops Q rest (a.put o.dst v') w') : wpList P ops Q (o :: rest) a w :=
  wpList_plain hg fun _ hK' => by
    obtain ⟨v', w', hr, h2, h3⟩ := run_app_full (P := P) E o.type h hsrc hnn hl hb hne
    unfold Oper.wp
    simp [execOp, hop, resolve, invoke, builtin, hs, hx, hr, Result.andThen]
    exact hK' _ _ (hK v' w' h2 h3)
end
set_option maxRecDepth 100000 in
theorem same_any (va vb : Value) (ls : List (List UInt8)) (w : World) (ha : Rdd w va ls) (hb : Rdd w vb ls) (hl : ls.length ≤ 100000) :
    Calls Tryd.prog 24 #[va, vb] w fun e w' => e = .returned (.bool true) ∧ Kp [] w w' := by
  obtain ⟨aa, ca, rfl⟩ := ha.form
  obtain ⟨ab, cb, rfl⟩ := hb.form
  have HA := Lib.hid ha
  have HB := Lib.hid hb
  obtain ⟨m, hm⟩ : ∃ m, ls.length = m := ⟨_, rfl⟩
  have HM := Lib.hid hm
  rw [hm] at HA HB hl ⊢
  clear ha hb hm
  go_enter Tryd.func24, Tryd.ntmps24
  go_wp2_with fail
  go_loopw [5] (fun i wr => ∃ k : Nat, k ≤ m ∧ i = .int .i64 k ∧ Hid (Kp [] w wr)) (fun i _ => m - (intOf i).toNat)
  case atStart => exact ⟨0, Nat.zero_le _, rfl, Lib.hid (Kp.refl [] w)⟩
  case round =>
    obtain ⟨k, hk, rfl, HR⟩ := hrel
    by_cases hlt : k < m
    · have hkl : k < ls.length := by rw [HM.out]; exact hlt
      obtain ⟨b1, o1, rfl, a1, c1, hc1, hr1⟩ := (HA.out.kp0 HR.out).at hkl
      obtain ⟨b2, o2, rfl, a2, c2, hc2, hr2⟩ := (HB.out.kp0 HR.out).at hkl
      have hd1 : ∀ n, (wr.drewN n).cell? ⟨b1, o1 + k, none⟩ = some (.slice a1 ls[k].length c1) := fun n => hc1
      have hd2 : ∀ n, (wr.drewN n).cell? ⟨b2, o2 + k, none⟩ = some (.slice a2 ls[k].length c2) := fun n => hc2
      have hv1 : ∀ n, (convert 27 9 (.slice a1 ls[k].length c1)).run Tryd.prog (wr.drewN n) = .ok (.string (strOf ls[k])) (wr.drewN n) := fun n => run_str Tryd.underlying27 Tryd.underlying5 Tryd.underlying9 (hr1.kp0 ((Kp.refl [] wr).drewN n))
      have hv2 : ∀ n, (convert 27 9 (.slice a2 ls[k].length c2)).run Tryd.prog (wr.drewN n) = .ok (.string (strOf ls[k])) (wr.drewN n) := fun n => run_str Tryd.underlying27 Tryd.underlying5 Tryd.underlying9 (hr2.kp0 ((Kp.refl [] wr).drewN n))
      clear hc1 hc2 hr1 hr2
      generalize ls[k].length = pl at *
      generalize strOf ls[k] = sz at *
      have hbq : (sz.toList == sz.toList) = true := by simp
      go_wp2_with fail
      go_quiet (fail)
      go_wp2_with fail
      go_roundw
      case rel => exact ⟨k + 1, by omega, by go_num, Lib.hid (HR.out.drewN nq)⟩
      case measure => simp [intOf]; omega
    · have hkm : k = m := by omega
      subst hkm
      go_wp2_with fail
      go_ret
      exact ⟨rfl, HR.out⟩
end Go.Proofs.YtkceaepbjdfccaaDoor
