/-
parcel.Split: its parts lie in blocks apart from one another, with no spare room.
-/
import Derived.Test.YtkceaepbjdfccaaDoorPar19
namespace Go.Proofs.YtkceaepbjdfccaaDoor
open Go.RowKit
/-- a slice of byte slices, each of its own, in blocks apart, with no spare room -/
def PtsD (w : World) (B : Nat) (v : Value) (ls : List (List UInt8)) : Prop :=
  ∃ vals : List Value, Own w B 27 v vals ∧ vals.length = ls.length ∧
    (∀ (j : Nat) (x : Value) (p : List UInt8), vals[j]? = some x → ls[j]? = some p → Own w B 5 x (bv p) ∧ ∃ g, x = .slice (some ⟨g, 0, none⟩) p.length p.length) ∧
    ∀ (i j : Nat) (x y : Value) (b : Nat), vals[i]? = some x → vals[j]? = some y → x.ownBlock = some b → y.ownBlock = some b → i = j
theorem PtsD.kp {w w' : World} {B : Nat} {v : Value} {ls : List (List UInt8)} (h : PtsD w B v ls) (k : Kp [] w w') : PtsD w' B v ls := by
  obtain ⟨vals, h1, h2, h3, h4⟩ := h
  exact ⟨vals, h1.kp0 k, h2, fun j x p hx hp => ⟨(h3 j x p hx hp).1.kp0 k, (h3 j x p hx hp).2⟩, h4⟩
theorem PtsD.nil (w : World) (B : Nat) : PtsD w B (.slice none 0 0) [] := ⟨[], Own.nil _ _ _, rfl, fun j x p hx => by simp at hx, fun i j x y b hx => by simp at hx⟩
theorem PtsD.pts {w : World} {B : Nat} {v : Value} {ls : List (List UInt8)} (h : PtsD w B v ls) : Pts w B v ls := by
  obtain ⟨vals, h1, h2, h3, _⟩ := h
  exact ⟨vals, h1, h2, fun j x p hx hp => ⟨(h3 j x p hx hp).1, by obtain ⟨_, g, rfl⟩ := h3 j x p hx hp; rfl⟩⟩
/-- append of one new slice to slices of their own -/
theorem wpl_app_ptsD {ops : Array Oper} {rest : List Oper} {o : Oper} {a : Act} {Q : Exit → Act → World → Prop} (hgd : o.guard = none) (sl x : Operand)
    (ho : o.op = .call { callee := .builtin .append, args := #[sl, x], argTypes := #[50, 50] })
    {W0 W : World} {B g n : Nat} {v : Value} {ls : List (List UInt8)} {p : List UInt8} (hs : a.eval sl = v) (hx : a.eval x = .slice (some ⟨W.heap.size, 0, none⟩) 1 1) (hP : PtsD W0 B v ls) (k00 : Kp [] W0 W) (hxo : Own W W0.heap.size 5 (.slice (some ⟨g, 0, none⟩) n n) (bv p)) (hB : B ≤ W0.heap.size) (hl : ls.length ≤ 1000)
    (h : ∀ v' w', PtsD w' B v' (ls ++ [p]) → Kp v.ownBlock.toList W w' → (∀ b, v.ownBlock = some b → B ≤ b) → wpList Tryd.prog ops Q rest (a.put o.dst v') w') : wpList Tryd.prog ops Q (o :: rest) a (W.alloc (.cells #[.slice (some ⟨g, 0, none⟩) n n] 27)) := by
  obtain ⟨vals, h20, h3, h40, h5⟩ := hP
  have h2 := h20.kp0 k00
  have hBW : B ≤ W.heap.size := Nat.le_trans hB k00.size
  have hxo' := hxo.base hB
  have hn := hxo.rd.len
  rw [bv_length] at hn
  have hgW : W0.heap.size ≤ g := (hxo.lt rfl).1
  have hold : ∀ (j : Nat) (x : Value) (b : Nat), vals[j]? = some x → x.ownBlock = some b → b < W0.heap.size := fun j x b hx hb => by
    have hj := (List.getElem?_eq_some_iff.1 hx).1
    exact ((h40 j x (ls[j]'(by omega)) hx (List.getElem?_eq_getElem (by omega))).1.lt hb).2
  have k0 : Kp [] W (W.alloc (.cells #[.slice (some ⟨g, 0, none⟩) n n] 27)) := (Kp.refl _ _).alloc _
  refine wpl_append el_byts hgd sl x ho hs hx (h2.kp0 k0) (rd_lit1 W 27 (.slice (some ⟨g, 0, none⟩) n n)) (fun u hu => by rw [List.mem_singleton] at hu; subst hu; rfl) (by rw [h3]; simp; omega) (by rw [h3]; simp; omega) (Nat.le_trans hBW k0.size) ?_
  intro v' w' ho5 hg5
  have hP2 := Pts.app (B := B) (ls := ls) (p := p) h2 h3 (fun j x p hx hp => ⟨(h40 j x p hx hp).1.kp0 k00, by obtain ⟨_, g, rfl⟩ := h40 j x p hx hp; rfl⟩) hxo' rfl ho5 hg5
  refine h v' w' ?_ hP2.2 (fun b hb => (h2.lt hb).1)
  have hne : ∀ (y : Value) (q : List UInt8), Own W B 5 y (bv q) → Own w' B 5 y (bv q) := fun y q hy => hy.kp hP2.2 (fun b hb hm => by
    rw [Option.mem_toList] at hm
    obtain ⟨cur, hc⟩ := h2.block hm
    exact hy.not_at hc (by decide) hb)
  have hvo : ∀ (j : Nat) (y : Value), (vals ++ [.slice (some ⟨g, 0, none⟩) n n])[j]? = some y → (j < vals.length ∧ vals[j]? = some y) ∨ (j = vals.length ∧ y = .slice (some ⟨g, 0, none⟩) n n) := fun j y hy => by
    by_cases hj : j < vals.length
    · rw [List.getElem?_append_left hj] at hy
      exact .inl ⟨hj, hy⟩
    · rw [List.getElem?_append_right (by omega)] at hy
      have hj0 : j - vals.length = 0 := by
        have := (List.getElem?_eq_some_iff.1 hy).1
        simp at this
        omega
      rw [hj0] at hy
      cases hy
      exact .inr ⟨by omega, rfl⟩
  refine ⟨vals ++ [.slice (some ⟨g, 0, none⟩) n n], ho5, by rw [List.length_append, List.length_append, h3]; rfl, fun j y q hy hq => ?_, fun i j x y b hx hy hbx hby => ?_⟩
  · rcases hvo j y hy with ⟨hj, hy⟩ | ⟨hj, rfl⟩
    · rw [List.getElem?_append_left (by omega)] at hq
      exact ⟨hne y q ((h40 j y q hy hq).1.kp0 k00), (h40 j y q hy hq).2⟩
    · rw [List.getElem?_append_right (by omega), hj, h3, Nat.sub_self] at hq
      cases hq
      exact ⟨hne _ _ hxo', g, by rw [hn]⟩
  · rcases hvo i x hx with ⟨hi, hx⟩ | ⟨hi, rfl⟩ <;> rcases hvo j y hy with ⟨hj, hy⟩ | ⟨hj, rfl⟩
    · exact h5 i j x y b hx hy hbx hby
    · have h1 := hold i x b hx hbx
      have e : some g = some b := hby
      rw [Option.some.injEq] at e
      omega
    · have h1 := hold j y b hy hby
      have e : some g = some b := hbx
      rw [Option.some.injEq] at e
      omega
    · omega
/-- what lies where while parts are made -/
structure SPD (w wr : World) (M : Nat) (mk : List UInt8) (v : Value) (ls : List (List UInt8)) : Prop where
  k : Kp [] w wr
  hM : w.heap.size ≤ M
  m : wr.heap[M]? = some (.cells (bv mk).toArray 88 (0, 0))
  p : PtsD wr w.heap.size v ls
theorem SPD.kp {w wr w' : World} {M : Nat} {mk : List UInt8} {v : Value} {ls : List (List UInt8)} (h : SPD w wr M mk v ls) (k : Kp [] wr w') : SPD w w' M mk v ls := ⟨h.k.trans0 k, h.hM, k.heap h.m (by simp), h.p.kp k⟩
theorem SPD.next {w wr u : World} {M : Nat} {mk : List UInt8} {v v9 : Value} {ls ls' : List (List UInt8)} (h : SPD w wr M mk v ls) (hk : Kp v.ownBlock.toList wr u) (hb : ∀ b, v.ownBlock = some b → w.heap.size ≤ b) (hp : PtsD u w.heap.size v9 ls') : SPD w u M mk v9 ls' := by
  refine ⟨h.k.trans hk (fun m hm => .inr (hb m (by rwa [Option.mem_toList] at hm))), h.hM, hk.heap h.m (fun hm => ?_), hp⟩
  rw [Option.mem_toList] at hm
  obtain ⟨vals, h1, _⟩ := h.p
  obtain ⟨cur, hc⟩ := h1.block hm
  rw [h.m] at hc
  simp only [Option.some.injEq, Obj.cells.injEq] at hc
  exact absurd hc.2.1 (by decide)
theorem spD_start {w w1 : World} {mk : List UInt8} {Z : Array Value} (k : Kp [] w w1) : SPD w ((w1.alloc (.cells Z 88)).setRow w1.heap.size (bv mk).toArray) w1.heap.size mk (.slice none 0 0) [] := by
  have h := sp_start (mk := mk) (Z := Z) k
  exact ⟨h.k, h.hM, h.m, PtsD.nil _ _⟩
set_option maxRecDepth 100000 in
set_option maxHeartbeats 2000000 in
theorem split_anyD (kk bg : List Int) (id : Int) (h0 : 0 ≤ id) (h1 : id < 4294967296) (v : Value) (l : List UInt8) (w : World) (hT : Tabs kk bg w) (hv : Rd w v (bv l)) (hl : l.length ≤ 31808) :
    Calls Tryd.prog 23 #[.int .u32 id, v] w fun e w' => ∃ v', e = .returned (.tuple #[v', .int .i64 0]) ∧ PtsD w' w.heap.size v' (partsP kk bg id l (cntP l.length)) ∧ Kp [] w w' := by
  obtain ⟨ao, cap, rfl⟩ := hv.form
  rw [show (bv l).length = l.length from bv_length l] at hv ⊢
  have HT := Lib.hid hT
  have HV := Lib.hid hv
  have HMA := Lib.hid (marked_any kk bg _ l w hT hv (by omega))
  have HML := Lib.hid (mark_len kk bg l)
  have HPA : Hid (∀ i, partP kk bg id l i = [lo8 5] ++ be32 id ++ [lo8 (cntP l.length : Int)] ++ [lo8 (i : Int)] ++ (mark kk bg l ++ contP l i)) := Lib.hid (fun i => rfl)
  have HPS : Hid (∀ n, partsP kk bg id l (n + 1) = partsP kk bg id l n ++ [partP kk bg id l n]) := Lib.hid (partsP_succ kk bg id l)
  have HPL : Hid (∀ n, (partsP kk bg id l n).length = n) := Lib.hid (partsP_len kk bg id l)
  have HMV : Hid ((bv (mark kk bg l)).toArray.size = 8) := Lib.hid (by rw [List.size_toArray, bv_length, mark_len])
  have HMO : Hid ((bv (mark kk bg l)).toArray.all (·.oneCell') = true) := Lib.hid (all_oneCell_toArray (bv_oneCell _))
  have hcs := cntP_small hl
  obtain ⟨c, hc⟩ : ∃ c, c = cntP l.length := ⟨_, rfl⟩
  have HCE := Lib.hid hc
  have HC : Hid (1 ≤ c ∧ c ≤ 64) := Lib.hid (by rw [hc]; exact hcs)
  have HCI : Hid (∀ i, i < c → 497 * i ≤ l.length) := Lib.hid (fun i hi => (cntP_lt (by rw [← hc]; exact hi)).1)
  rw [← hc] at HPA ⊢
  obtain ⟨X, hX⟩ : ∃ X, ((l.length : Int) + 497 - 1) / 497 = X := ⟨_, rfl⟩
  have hq : (1 < X ∧ X = (c : Int)) ∨ (X ≤ 1 ∧ c = 1) := by unfold cntP at hc; omega
  generalize mark kk bg l = mk at *
  generalize hPP : partP kk bg id l = PP at *
  generalize hPS : partsP kk bg id l = PS at *
  have HPS0 : Hid (PS 0 = []) := Lib.hid (by rw [← hPS]; rfl)
  have lI : (l.length : Int) ≤ 31808 := by omega
  have l0 : ¬ (31808 : Int) < (l.length : Int) := by omega
  clear hPP hPS hT hv hcs hc
  rcases hq with ⟨hq1, rfl⟩ | ⟨hq1, rfl⟩
  · go_enter Tryd.func23, Tryd.ntmps23
    go_wp2_with (first
      | (go_at_call 43; go_must (refine HMA.out.mono ?_; rintro e w1 ⟨rfl, hk1⟩; have HK1 := Lib.hid hk1; clear hk1))
      | ((with_reducible refine wpList_store_row ?a1 88 (.tmp 6) (.tmp 18) ?a2 w1.heap.size (bv mk).toArray ?a3 ?a4 88 (u8s (List.replicate 8 0)) ?a5 ?a6 ?a7 ?a8 ?a9); (case a1 => rfl); (case a2 => rfl); (case a3 => rfl); (case a4 => rfl); (case a5 => exact heap_alloc_new w1 _); (case a6 => (rw [HMV.out]; kernel_rfl)); (case a7 => (rw [u8s_size, HMV.out, List.length_replicate])); (case a8 => exact HMO.out); have HS0 : Hid (SPD w ((w1.alloc (.cells (u8s (List.replicate 8 0)) 88)).setRow w1.heap.size (bv mk).toArray) w1.heap.size mk (.slice none 0 0) []) := Lib.hid (spD_start HK1.out); change wpList _ _ _ _ _ ((w1.alloc (.cells (u8s (List.replicate 8 0)) 88)).setRow w1.heap.size (bv mk).toArray); generalize (w1.alloc (.cells (u8s (List.replicate 8 0)) 88)).setRow w1.heap.size (bv mk).toArray = W2 at *)
      | fail)
    try simp only [hX]
    clear hX
    generalize w1.heap.size = M at *
    go_loopw [8, 26] (fun v i wr => ∃ k : Nat, k ≤ c ∧ i = .int .i64 k ∧ Hid (SPD w wr M mk v (PS k))) (fun _ i _ => c - (intOf i).toNat)
    case atStart => exact ⟨0, Nat.zero_le _, rfl, by rw [HPS0.out]; exact HS0⟩
    case round =>
      clear HS0
      obtain ⟨k, hk, rfl, HR⟩ := hrel
      by_cases hlt : k < c
      · have kI : (k : Int) < c := by omega
        have hkl := HCI.out k hlt
        by_cases hz : l.length = 0
        · have hk0 : k = 0 := by omega
          have zI : (l.length : Int) ≤ (k : Int) * 497 := by omega
          have zJ : (l.length : Int) ≤ ((k : Int) + 1) * 497 := by omega
          exfalso
          have := HCE.out
          unfold cntP at this
          omega
        · have zI : (k : Int) * 497 < (l.length : Int) := by have := HCE.out; unfold cntP at this; omega
          by_cases hm : ((k : Int) + 1) * 497 < (l.length : Int)
          · skip
            obtain ⟨a3, n3, c3, hsl, hrd⟩ := run_subb_lh el_byt HV.out ((k : Int) * 497) (((k : Int) + 1) * 497) (by omega) (by omega) (by omega)
            have hcn : (l.take ((((k : Int) + 1) * 497)).toNat).drop (((k : Int) * 497)).toNat = contP l k := by
              unfold contP
              rw [List.drop_take]
              rw [show (((k : Int) * 497)).toNat = 497 * k by omega]
              congr 1
              omega
            rw [hcn] at hrd
            have HRD := Lib.hid hrd
            clear hrd hcn
            have HCL := Lib.hid (contP_len l k)
            have HPK := Lib.hid (HPA.out k)
            generalize contP l k = ct at *
            have hal := fun W => run_all8 W M
            go_wp2_with (first
              | (go_at_call 44; go_must (refine (newWriter_yes 512 wr (by decide) (by decide)).mono ?_; rintro e u1 ⟨rfl, hw1, hk1⟩; have HW1 : Hid (WS wr u1 wr.heap.size (.slice none 0 0) []) := Lib.hid ⟨hk1, hw1⟩; clear hw1 hk1))
              | (go_at_call 45; (with_reducible refine (ws_u8 5 HW1.out (by decide) (by simp)).mono ?_); rintro e u2 ⟨o2, rfl, hw2⟩; have HW2 := Lib.hid hw2; clear hw2)
              | (go_at_call 46; go_must (refine (ws_u32 id HW2.out h0 h1 (by simp)).mono ?_; rintro e u3 ⟨o3, rfl, hw3⟩; have HW3 := Lib.hid hw3; clear hw3))
              | (go_at_call 45; (with_reducible refine (ws_u8 ((c : Int)) HW3.out (by have := HC.out; omega) (by simp [be32])).mono ?_); rintro e u4 ⟨o4, rfl, hw4⟩; have HW4 := Lib.hid hw4; clear hw4)
              | (go_at_call 45; (with_reducible refine (ws_u8 (k : Int) HW4.out (by have := HC.out; omega) (by simp [be32])).mono ?_); rintro e u5 ⟨o5, rfl, hw5⟩; have HW5 := Lib.hid hw5; clear hw5)
              | (go_at_call 47; go_must (refine (ws_fixed HW5.out (fun w' kk => rd_mark (kk.heap HR.out.m (by simp)) HML.out) (fun w' kk => HRD.out.kp0 (HR.out.k.trans0 kk)) (by have := HCL.out; have := HML.out; simp [be32]; omega)).mono ?_; rintro e u6 ⟨o6, rfl, hw6⟩; have HW6 := Lib.hid hw6; clear hw6))
              | (go_at_call 48; go_must (refine (ws_out HW6.out).mono ?_; rintro e u7 ⟨g7, n7, rfl, hob, hk7⟩; have HK7 := Lib.hid hk7; have HOB := Lib.hid hob; clear hk7 hob))
              | (at_builtin; (refine wpl_app_ptsD rfl (.tmp 73) (.tmp 75) (by rfl) (by rfl) (by rfl) HR.out.p HK7.out HOB.out HR.out.k.size (by rw [HPL.out]; have := HC.out; omega) ?_; intro v9 u9 hp9 hk9 hb9; have HP9 := Lib.hid hp9; have HK9 : Hid (SPD w u9 M mk v9 (PS k ++ [PP k])) := Lib.hid (SPD.next (HR.out.kp HK7.out) hk9 hb9 (by rw [HPK.out]; simpa using hp9)); clear hp9 hk9 hb9))
              | fail)
            go_roundw
            case rel => exact ⟨k + 1, by omega, by go_num, by rw [HPS.out]; exact HK9⟩
            case measure => simp [intOf]; omega
          · have hm2 : (l.length : Int) ≤ ((k : Int) + 1) * 497 := by omega
            obtain ⟨a3, n3, c3, hsl, hrd⟩ := run_subb_lh el_byt HV.out ((k : Int) * 497) (l.length : Int) (by omega) (by omega) (by omega)
            have hcn : (l.take ((l.length : Int)).toNat).drop (((k : Int) * 497)).toNat = contP l k := by
              unfold contP
              rw [List.drop_take]
              rw [show (((k : Int) * 497)).toNat = 497 * k by omega]
              rw [List.take_of_length_le (by rw [List.length_drop]; omega), List.take_of_length_le (by rw [List.length_drop]; omega)]
            rw [hcn] at hrd
            have HRD := Lib.hid hrd
            clear hrd hcn
            have HCL := Lib.hid (contP_len l k)
            have HPK := Lib.hid (HPA.out k)
            generalize contP l k = ct at *
            have hal := fun W => run_all8 W M
            go_wp2_with (first
              | (go_at_call 44; go_must (refine (newWriter_yes 512 wr (by decide) (by decide)).mono ?_; rintro e u1 ⟨rfl, hw1, hk1⟩; have HW1 : Hid (WS wr u1 wr.heap.size (.slice none 0 0) []) := Lib.hid ⟨hk1, hw1⟩; clear hw1 hk1))
              | (go_at_call 45; (with_reducible refine (ws_u8 5 HW1.out (by decide) (by simp)).mono ?_); rintro e u2 ⟨o2, rfl, hw2⟩; have HW2 := Lib.hid hw2; clear hw2)
              | (go_at_call 46; go_must (refine (ws_u32 id HW2.out h0 h1 (by simp)).mono ?_; rintro e u3 ⟨o3, rfl, hw3⟩; have HW3 := Lib.hid hw3; clear hw3))
              | (go_at_call 45; (with_reducible refine (ws_u8 ((c : Int)) HW3.out (by have := HC.out; omega) (by simp [be32])).mono ?_); rintro e u4 ⟨o4, rfl, hw4⟩; have HW4 := Lib.hid hw4; clear hw4)
              | (go_at_call 45; (with_reducible refine (ws_u8 (k : Int) HW4.out (by have := HC.out; omega) (by simp [be32])).mono ?_); rintro e u5 ⟨o5, rfl, hw5⟩; have HW5 := Lib.hid hw5; clear hw5)
              | (go_at_call 47; go_must (refine (ws_fixed HW5.out (fun w' kk => rd_mark (kk.heap HR.out.m (by simp)) HML.out) (fun w' kk => HRD.out.kp0 (HR.out.k.trans0 kk)) (by have := HCL.out; have := HML.out; simp [be32]; omega)).mono ?_; rintro e u6 ⟨o6, rfl, hw6⟩; have HW6 := Lib.hid hw6; clear hw6))
              | (go_at_call 48; go_must (refine (ws_out HW6.out).mono ?_; rintro e u7 ⟨g7, n7, rfl, hob, hk7⟩; have HK7 := Lib.hid hk7; have HOB := Lib.hid hob; clear hk7 hob))
              | (at_builtin; (refine wpl_app_ptsD rfl (.tmp 73) (.tmp 75) (by rfl) (by rfl) (by rfl) HR.out.p HK7.out HOB.out HR.out.k.size (by rw [HPL.out]; have := HC.out; omega) ?_; intro v9 u9 hp9 hk9 hb9; have HP9 := Lib.hid hp9; have HK9 : Hid (SPD w u9 M mk v9 (PS k ++ [PP k])) := Lib.hid (SPD.next (HR.out.kp HK7.out) hk9 hb9 (by rw [HPK.out]; simpa using hp9)); clear hp9 hk9 hb9))
              | fail)
            go_roundw
            case rel => exact ⟨k + 1, by omega, by go_num, by rw [HPS.out]; exact HK9⟩
            case measure => simp [intOf]; omega
      · have hke : k = c := by omega
        subst hke
        go_wp2_with fail
        go_ret2
        exact ⟨_, rfl, HR.out.p, HR.out.k⟩
  · go_enter Tryd.func23, Tryd.ntmps23
    go_wp2_with (first
      | (go_at_call 43; go_must (refine HMA.out.mono ?_; rintro e w1 ⟨rfl, hk1⟩; have HK1 := Lib.hid hk1; clear hk1))
      | ((with_reducible refine wpList_store_row ?d1 88 (.tmp 6) (.tmp 18) ?d2 w1.heap.size (bv mk).toArray ?d3 ?d4 88 (u8s (List.replicate 8 0)) ?d5 ?d6 ?d7 ?d8 ?d9); (case d1 => rfl); (case d2 => rfl); (case d3 => rfl); (case d4 => rfl); (case d5 => exact heap_alloc_new w1 _); (case d6 => (rw [HMV.out]; kernel_rfl)); (case d7 => (rw [u8s_size, HMV.out, List.length_replicate])); (case d8 => exact HMO.out); have HS0 : Hid (SPD w ((w1.alloc (.cells (u8s (List.replicate 8 0)) 88)).setRow w1.heap.size (bv mk).toArray) w1.heap.size mk (.slice none 0 0) []) := Lib.hid (spD_start HK1.out); change wpList _ _ _ _ _ ((w1.alloc (.cells (u8s (List.replicate 8 0)) 88)).setRow w1.heap.size (bv mk).toArray); generalize (w1.alloc (.cells (u8s (List.replicate 8 0)) 88)).setRow w1.heap.size (bv mk).toArray = W2 at *)
      | fail)
    try simp only [hX]
    clear hX
    generalize w1.heap.size = M at *
    go_loopw [8, 26] (fun v i wr => ∃ k : Nat, k ≤ 1 ∧ i = .int .i64 k ∧ Hid (SPD w wr M mk v (PS k))) (fun _ i _ => 1 - (intOf i).toNat)
    case atStart => exact ⟨0, Nat.zero_le _, rfl, by rw [HPS0.out]; exact HS0⟩
    case round =>
      clear HS0
      obtain ⟨k, hk, rfl, HR⟩ := hrel
      by_cases hlt : k < 1
      · have kI : (k : Int) < 1 := by omega
        have hkl := HCI.out k hlt
        by_cases hz : l.length = 0
        · have hk0 : k = 0 := by omega
          have zI : (l.length : Int) ≤ (k : Int) * 497 := by omega
          have zJ : (l.length : Int) ≤ ((k : Int) + 1) * 497 := by omega
          obtain ⟨a3, n3, c3, hsl, hrd⟩ := run_subb_lh el_byt HV.out (l.length : Int) (l.length : Int) (by omega) (by omega) (by omega)
          have hcn : (l.take ((l.length : Int)).toNat).drop ((l.length : Int)).toNat = contP l k := by
            unfold contP
            rw [List.drop_take]
            rw [List.drop_eq_nil_of_le (by omega), List.drop_eq_nil_of_le (by omega), List.take_nil, List.take_nil]
          rw [hcn] at hrd
          have HRD := Lib.hid hrd
          clear hrd hcn hz hk0
          have HCL := Lib.hid (contP_len l k)
          have HPK := Lib.hid (HPA.out k)
          generalize contP l k = ct at *
          have hal := fun W => run_all8 W M
          go_wp2_with (first
            | (go_at_call 44; go_must (refine (newWriter_yes 512 wr (by decide) (by decide)).mono ?_; rintro e u1 ⟨rfl, hw1, hk1⟩; have HW1 : Hid (WS wr u1 wr.heap.size (.slice none 0 0) []) := Lib.hid ⟨hk1, hw1⟩; clear hw1 hk1))
            | (go_at_call 45; (with_reducible refine (ws_u8 5 HW1.out (by decide) (by simp)).mono ?_); rintro e u2 ⟨o2, rfl, hw2⟩; have HW2 := Lib.hid hw2; clear hw2)
            | (go_at_call 46; go_must (refine (ws_u32 id HW2.out h0 h1 (by simp)).mono ?_; rintro e u3 ⟨o3, rfl, hw3⟩; have HW3 := Lib.hid hw3; clear hw3))
            | (go_at_call 45; (with_reducible refine (ws_u8 (1) HW3.out (by have := HC.out; omega) (by simp [be32])).mono ?_); rintro e u4 ⟨o4, rfl, hw4⟩; have HW4 := Lib.hid hw4; clear hw4)
            | (go_at_call 45; (with_reducible refine (ws_u8 (k : Int) HW4.out (by have := HC.out; omega) (by simp [be32])).mono ?_); rintro e u5 ⟨o5, rfl, hw5⟩; have HW5 := Lib.hid hw5; clear hw5)
            | (go_at_call 47; go_must (refine (ws_fixed HW5.out (fun w' kk => rd_mark (kk.heap HR.out.m (by simp)) HML.out) (fun w' kk => HRD.out.kp0 (HR.out.k.trans0 kk)) (by have := HCL.out; have := HML.out; simp [be32]; omega)).mono ?_; rintro e u6 ⟨o6, rfl, hw6⟩; have HW6 := Lib.hid hw6; clear hw6))
            | (go_at_call 48; go_must (refine (ws_out HW6.out).mono ?_; rintro e u7 ⟨g7, n7, rfl, hob, hk7⟩; have HK7 := Lib.hid hk7; have HOB := Lib.hid hob; clear hk7 hob))
            | (at_builtin; (refine wpl_app_ptsD rfl (.tmp 73) (.tmp 75) (by rfl) (by rfl) (by rfl) HR.out.p HK7.out HOB.out HR.out.k.size (by rw [HPL.out]; have := HC.out; omega) ?_; intro v9 u9 hp9 hk9 hb9; have HP9 := Lib.hid hp9; have HK9 : Hid (SPD w u9 M mk v9 (PS k ++ [PP k])) := Lib.hid (SPD.next (HR.out.kp HK7.out) hk9 hb9 (by rw [HPK.out]; simpa using hp9)); clear hp9 hk9 hb9))
            | fail)
          go_roundw
          case rel => exact ⟨k + 1, by omega, by go_num, by rw [HPS.out]; exact HK9⟩
          case measure => simp [intOf]; omega
        · have zI : (k : Int) * 497 < (l.length : Int) := by have := HCE.out; unfold cntP at this; omega
          by_cases hm : ((k : Int) + 1) * 497 < (l.length : Int)
          · exfalso
            have := HCE.out
            unfold cntP at this
            omega
          · have hm2 : (l.length : Int) ≤ ((k : Int) + 1) * 497 := by omega
            obtain ⟨a3, n3, c3, hsl, hrd⟩ := run_subb_lh el_byt HV.out ((k : Int) * 497) (l.length : Int) (by omega) (by omega) (by omega)
            have hcn : (l.take ((l.length : Int)).toNat).drop (((k : Int) * 497)).toNat = contP l k := by
              unfold contP
              rw [List.drop_take]
              rw [show (((k : Int) * 497)).toNat = 497 * k by omega]
              rw [List.take_of_length_le (by rw [List.length_drop]; omega), List.take_of_length_le (by rw [List.length_drop]; omega)]
            rw [hcn] at hrd
            have HRD := Lib.hid hrd
            clear hrd hcn
            have HCL := Lib.hid (contP_len l k)
            have HPK := Lib.hid (HPA.out k)
            generalize contP l k = ct at *
            have hal := fun W => run_all8 W M
            go_wp2_with (first
              | (go_at_call 44; go_must (refine (newWriter_yes 512 wr (by decide) (by decide)).mono ?_; rintro e u1 ⟨rfl, hw1, hk1⟩; have HW1 : Hid (WS wr u1 wr.heap.size (.slice none 0 0) []) := Lib.hid ⟨hk1, hw1⟩; clear hw1 hk1))
              | (go_at_call 45; (with_reducible refine (ws_u8 5 HW1.out (by decide) (by simp)).mono ?_); rintro e u2 ⟨o2, rfl, hw2⟩; have HW2 := Lib.hid hw2; clear hw2)
              | (go_at_call 46; go_must (refine (ws_u32 id HW2.out h0 h1 (by simp)).mono ?_; rintro e u3 ⟨o3, rfl, hw3⟩; have HW3 := Lib.hid hw3; clear hw3))
              | (go_at_call 45; (with_reducible refine (ws_u8 (1) HW3.out (by have := HC.out; omega) (by simp [be32])).mono ?_); rintro e u4 ⟨o4, rfl, hw4⟩; have HW4 := Lib.hid hw4; clear hw4)
              | (go_at_call 45; (with_reducible refine (ws_u8 (k : Int) HW4.out (by have := HC.out; omega) (by simp [be32])).mono ?_); rintro e u5 ⟨o5, rfl, hw5⟩; have HW5 := Lib.hid hw5; clear hw5)
              | (go_at_call 47; go_must (refine (ws_fixed HW5.out (fun w' kk => rd_mark (kk.heap HR.out.m (by simp)) HML.out) (fun w' kk => HRD.out.kp0 (HR.out.k.trans0 kk)) (by have := HCL.out; have := HML.out; simp [be32]; omega)).mono ?_; rintro e u6 ⟨o6, rfl, hw6⟩; have HW6 := Lib.hid hw6; clear hw6))
              | (go_at_call 48; go_must (refine (ws_out HW6.out).mono ?_; rintro e u7 ⟨g7, n7, rfl, hob, hk7⟩; have HK7 := Lib.hid hk7; have HOB := Lib.hid hob; clear hk7 hob))
              | (at_builtin; (refine wpl_app_ptsD rfl (.tmp 73) (.tmp 75) (by rfl) (by rfl) (by rfl) HR.out.p HK7.out HOB.out HR.out.k.size (by rw [HPL.out]; have := HC.out; omega) ?_; intro v9 u9 hp9 hk9 hb9; have HP9 := Lib.hid hp9; have HK9 : Hid (SPD w u9 M mk v9 (PS k ++ [PP k])) := Lib.hid (SPD.next (HR.out.kp HK7.out) hk9 hb9 (by rw [HPK.out]; simpa using hp9)); clear hp9 hk9 hb9))
              | fail)
            go_roundw
            case rel => exact ⟨k + 1, by omega, by go_num, by rw [HPS.out]; exact HK9⟩
            case measure => simp [intOf]; omega
      · have hke : k = 1 := by omega
        subst hke
        go_wp2_with fail
        go_ret2
        exact ⟨_, rfl, HR.out.p, HR.out.k⟩
end Go.Proofs.YtkceaepbjdfccaaDoor
