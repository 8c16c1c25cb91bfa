/-
Plain laws of the digits and the number; lethelaw25.digits.
-/
import Derived.Test.YtkceaepbjdfccaaDoorNumb2
import Derived.Test.YtkceaepbjdfccaaDoorLawHash
namespace Go.Proofs.YtkceaepbjdfccaaDoor
open Go.RowKit
theorem lt_tri : ∀ x y : List UInt8, x < y ∨ x = y ∨ y < x
  | [], [] => .inr (.inl rfl)
  | [], _ :: _ => .inl (List.nil_lt_cons _ _)
  | _ :: _, [] => .inr (.inr (List.nil_lt_cons _ _))
  | a :: x, b :: y => by
    simp only [List.cons_lt_cons_iff, UInt8.lt_iff_toNat_lt, List.cons.injEq]
    have h := lt_tri x y
    have ha : a = b ↔ a.toNat = b.toNat := ⟨fun h => by rw [h], fun h => UInt8.toNat_inj.1 h⟩
    have hb : b = a ↔ a.toNat = b.toNat := ⟨fun h => by rw [h], fun h => (UInt8.toNat_inj.1 h).symm⟩
    rw [ha, hb]
    rcases h with h | h | h
    · by_cases e : a.toNat = b.toNat
      · exact .inl (.inr ⟨e, h⟩)
      · rcases Nat.lt_or_gt_of_ne e with h' | h'
        · exact .inl (.inl h')
        · exact .inr (.inr (.inl h'))
    · by_cases e : a.toNat = b.toNat
      · exact .inr (.inl ⟨e, h⟩)
      · rcases Nat.lt_or_gt_of_ne e with h' | h'
        · exact .inl (.inl h')
        · exact .inr (.inr (.inl h'))
    · by_cases e : a.toNat = b.toNat
      · exact .inr (.inr (.inr ⟨e, h⟩))
      · rcases Nat.lt_or_gt_of_ne e with h' | h'
        · exact .inl (.inl h')
        · exact .inr (.inr (.inl h'))
theorem lt_asym : ∀ x y : List UInt8, x < y → ¬ y < x
  | [], [], h => by simp at h
  | [], _ :: _, _ => by simp
  | _ :: _, [], h => by simp at h
  | a :: x, b :: y, h => by
    simp only [List.cons_lt_cons_iff, UInt8.lt_iff_toNat_lt] at h ⊢
    rintro h'
    rcases h with h | ⟨rfl, h⟩
    · rcases h' with h' | ⟨rfl, h'⟩
      · omega
      · omega
    · rcases h' with h' | ⟨_, h'⟩
      · omega
      · exact lt_asym x y h h'
theorem jn_of (x y : List UInt8) : jn x y = if y < x then y ++ x else x ++ y := by
  unfold jn
  by_cases h : y < x
  · rw [if_pos h, if_neg]
    rintro (h' | rfl)
    · exact lt_asym _ _ h h'
    · exact lt_asym _ _ h h
  · rw [if_neg h, if_pos]
    rcases lt_tri x y with h' | h' | h'
    · exact .inl h'
    · exact .inr h'
    · exact absurd h' h
theorem jn_comm (x y : List UInt8) : jn x y = jn y x := by
  rw [jn_of]
  unfold jn
  by_cases h : y < x
  · rw [if_pos h, if_pos (.inl h)]
  · rw [if_neg h]
    by_cases e : y = x
    · subst e; rw [if_pos (.inr rfl)]
    · rw [if_neg (by rintro (h' | h'); exact h h'; exact e h')]
theorem bl_eq (x y : List UInt8) : Op.bytesLess (strOf x).toList (strOf y).toList = decide (x < y) := by
  rw [ByteArray.toList_eq, ByteArray.toList_eq, strOf_toList, strOf_toList, Proofs.bytesLess_eq]
/-- all are digits -/
def AllDig (l : List UInt8) : Prop := ∀ c ∈ l, dig c = true
theorem digit_dig (n b : Int) : dig (digit n b) = true := by
  have h := digit_val n b
  unfold dig
  simp only [Bool.and_eq_true, decide_eq_true_eq]
  omega
theorem halfL_dig (d : List Int) : ∀ g, AllDig (halfL d g)
  | 0 => fun c h => by cases h
  | g + 1 => fun c h => by
    rw [halfL, List.mem_append] at h
    rcases h with h | h
    · exact halfL_dig d g c h
    · simp only [five, List.mem_cons, List.not_mem_nil, or_false] at h
      rcases h with rfl | rfl | rfl | rfl | rfl <;> exact digit_dig _ _
theorem half_dig (kk bg nm key : List Int) : AllDig (half kk bg nm key) := halfL_dig _ _
theorem AllDig.app {x y : List UInt8} (hx : AllDig x) (hy : AllDig y) : AllDig (x ++ y) := fun c h => by
  rcases List.mem_append.1 h with h | h
  · exact hx c h
  · exact hy c h
theorem jn_dig {x y : List UInt8} (hx : AllDig x) (hy : AllDig y) : AllDig (jn x y) := by
  unfold jn; split
  · exact hx.app hy
  · exact hy.app hx
theorem AllDig.filter {x : List UInt8} (hx : AllDig x) : x.filter dig = x := List.filter_eq_self.2 hx
theorem gaps_filter {d : List UInt8} (hd : AllDig d) : ∀ k, (gaps d k).filter dig = d.take (5 * (k + 1))
  | 0 => by
    rw [gaps]
    exact AllDig.filter (fun c h => hd c (List.mem_of_mem_take h))
  | k + 1 => by
    rw [gaps, List.filter_append, gaps_filter hd k, List.filter_cons]
    have h32 : dig 32 = false := rfl
    rw [h32, if_neg (by simp), AllDig.filter (fun c h => hd c (List.mem_of_mem_drop (List.mem_of_mem_take h))), ← List.take_add, show 5 * (k + 1) + 5 = 5 * (k + 1 + 1) by omega]
theorem gaps_ok {d : List UInt8} (hd : AllDig d) : ∀ k, (gaps d k).all (fun c => dig c || sep c) = true
  | 0 => by
    rw [gaps, List.all_eq_true]
    intro c h
    rw [hd c (List.mem_of_mem_take h)]; rfl
  | k + 1 => by
    rw [gaps, List.all_append, gaps_ok hd k, List.all_cons, Bool.true_and]
    have h32 : (dig 32 || sep 32) = true := rfl
    rw [h32, Bool.true_and, List.all_eq_true]
    intro c h
    rw [hd c (List.mem_of_mem_drop (List.mem_of_mem_take h))]; rfl
theorem gaps_rdOk {d : List UInt8} (hd : AllDig d) (hl : d.length = 60) : rdOk (gaps d 11) = true ∧ rdS (gaps d 11) = d ∧ rdErr (gaps d 11) = 0 := by
  have h1 : (gaps d 11).filter dig = d := by
    rw [gaps_filter hd 11]
    exact List.take_of_length_le (by omega)
  have h : rdOk (gaps d 11) = true := by
    unfold rdOk; rw [gaps_ok hd 11, h1]; simpa using hl
  exact ⟨h, by unfold rdS; rw [if_pos h, h1], by unfold rdErr; rw [if_pos h]⟩
theorem gaps_get (d : List UInt8) (hl : d.length = 60) : ∀ k, k ≤ 11 → ∀ i, i < 5 + 6 * k → (gaps d k)[i]? = if i % 6 = 5 then some 32 else d[5 * (i / 6) + i % 6]?
  | 0, _, i, hi => by
    rw [gaps, List.getElem?_take, if_pos (by omega), if_neg (by omega), show 5 * (i / 6) + i % 6 = i by omega]
  | k + 1, hk, i, hi => by
    have hg := gaps_len d hl k (by omega)
    rw [gaps]
    by_cases h : i < 5 + 6 * k
    · rw [List.getElem?_append_left (by omega)]
      exact gaps_get d hl k (by omega) i h
    · rw [List.getElem?_append_right (by omega), hg]
      obtain ⟨j, rfl⟩ : ∃ j, i = 5 + 6 * k + j := ⟨i - (5 + 6 * k), by omega⟩
      rw [show 5 + 6 * k + j - (5 + 6 * k) = j by omega]
      cases j with
      | zero => rw [if_pos (by omega)]; rfl
      | succ j =>
        rw [if_neg (by omega), List.getElem?_cons_succ, List.getElem?_take, if_pos (by omega), List.getElem?_drop]
        congr 1
        omega
/-- where a blank stands -/
theorem gaps_blank {d : List UInt8} (hd : AllDig d) (hl : d.length = 60) (i : Nat) (hi : i < 71) : (((gaps d 11).getD i 0).toNat = 32) ↔ i % 6 = 5 := by
  rw [List.getD_eq_getElem?_getD, gaps_get d hl 11 (by decide) i (by omega)]
  by_cases h : i % 6 = 5
  · rw [if_pos h]; simp [h]
  · rw [if_neg h]
    have hlt : 5 * (i / 6) + i % 6 < d.length := by omega
    rw [List.getElem?_eq_getElem hlt]
    have hg := hd _ (List.getElem_mem hlt)
    simp only [Option.getD_some, h, iff_false]
    intro e
    unfold dig at hg
    rw [e] at hg
    simp at hg
theorem nm_err (s : ByteArray) : nameErr (nm s).size = 0 := by
  obtain ⟨h1, h2⟩ := nm_size s
  unfold nameErr
  rw [if_neg h1, if_neg h2]
theorem nm_two (a b : ByteArray) : twoErr (nm a).size (nm b).size = 0 := by
  unfold twoErr; rw [if_pos (nm_err a)]; exact nm_err b
theorem nm_small (s : ByteArray) : (nm s).size ≤ 140737488351232 := by have := nm_size s; omega
/-- while the digits of a text are gathered -/
structure DgM (w wr : World) (l : List UInt8) (v : Value) : Prop where
  kp : Kp [] w wr
  o : Own wr w.heap.size 5 v (bv l)
theorem DgM.app {w wr w5 : World} {l : List UInt8} {v v2 : Value} {c : UInt8} {ob : Obj} (h : DgM w wr l v)
    (ho5 : Own w5 w.heap.size 5 v2 (bv l ++ [.int .u8 (c.toNat : Int)])) (hg5 : (wr.alloc ob).grownBy w5 v.ownBlock) : DgM w w5 (l ++ [c]) v2 := by
  have k0 : Kp [] wr (wr.alloc ob) := (Kp.refl _ _).alloc _
  have k1 : Kp v.ownBlock.toList (wr.alloc ob) w5 := Kp.of_grown hg5 (fun k hk => .inl (by rw [hk]; simp))
  refine ⟨(h.kp.trans0 k0).trans k1 (fun m hm => ?_), ?_⟩
  · rw [Option.mem_toList] at hm
    exact .inr (h.o.lt hm).1
  · rw [bv_append]; exact ho5
set_option maxRecDepth 100000 in
set_option maxHeartbeats 1000000 in
theorem digits_any (s : ByteArray) (w : World) (hs : s.size ≤ 140737488351232) :
    Calls Tryd.prog 17 #[.string s] w fun e w' => e = .returned (.string (strOf (s.data.toList.filter dig))) ∧ Kp [] w w' := by
  have H0 : Hid (DgM w w [] (.slice none 0 0)) := Lib.hid ⟨Kp.refl _ _, Own.nil _ _ _⟩
  go_enter Tryd.func17, Tryd.ntmps17
  go_wp2_with fail
  go_loopw [3, 4] (fun v i wr => ∃ k : Nat, k ≤ s.size ∧ i = .int .i64 k ∧ Hid (DgM w wr ((s.data.toList.take k).filter dig) v)) (fun _ i _ => s.size - (intOf i).toNat)
  case atStart => exact ⟨0, Nat.zero_le _, rfl, H0⟩
  case round =>
    clear H0
    obtain ⟨k, hk, rfl, HR⟩ := hrel
    by_cases hlt : k < s.size
    · obtain ⟨hkl, hke⟩ := dat_get s k hlt
      have htk := take_snoc s.data.toList k hkl
      rw [hke] at htk
      obtain ⟨c, hc⟩ : ∃ c, c = s[k] := ⟨_, rfl⟩
      rw [← hc] at htk
      have HTK := Lib.hid htk
      have HC := Lib.hid hc
      have q1 : (k : Int) < (s.size : Int) := by omega
      clear hc htk hke
      by_cases hd : dig c = true
      · have h48 : 48 ≤ c.toNat ∧ c.toNat ≤ 57 := by
          unfold dig at hd
          simpa using hd
        have b1 : (48 : Int) ≤ ((s[k]).toNat : Int) := by rw [← HC.out]; omega
        have b2 : ((s[k]).toNat : Int) ≤ 57 := by rw [← HC.out]; omega
        have HF : Hid ((s.data.toList.take (k + 1)).filter dig = (s.data.toList.take k).filter dig ++ [c]) := Lib.hid (by
          rw [HTK.out, List.filter_append]
          simp [hd])
        have HLEN : Hid (((s.data.toList.take k).filter dig).length ≤ 140737488351232) := Lib.hid (by
          have h1 := List.length_filter_le dig (s.data.toList.take k)
          have h2 : (s.data.toList.take k).length ≤ k := List.length_take_le _ _
          omega)
        clear hd h48
        go_wp2_with (first
          | (at_builtin; (refine wpl_append el_byt rfl (.tmp 21) (.tmp 25) (by rfl) (by rfl) (by rfl) (HR.out.o.kp0 ((Kp.refl [] wr).alloc _)) (rd_lit1 wr 5 _) (by simp [Value.oneCell']) (by have := HLEN.out; simp [bv_length]; omega) (by have := HLEN.out; simp [bv_length]; omega) (by have := HR.out.kp.size; simp; omega) ?_; intro v2 w5 ho5 hg5; rw [← HC.out] at ho5; have H5 := Lib.hid (HR.out.app ho5 hg5); clear ho5 hg5))
          | fail)
        go_roundw
        case rel => exact ⟨k + 1, by omega, by go_num, Lib.hid (by rw [HF.out]; exact H5.out)⟩
        case measure => simp [intOf]; omega
      · have HF : Hid ((s.data.toList.take (k + 1)).filter dig = (s.data.toList.take k).filter dig) := Lib.hid (by
          rw [HTK.out, List.filter_append]
          simp [hd])
        have hor : ((s[k]).toNat : Int) < 48 ∨ 57 < ((s[k]).toNat : Int) := by
          rw [← HC.out]
          unfold dig at hd
          simp only [Bool.and_eq_true, decide_eq_true_eq] at hd
          omega
        clear hd
        rcases hor with h | h
        · have b1 : ¬ (48 : Int) ≤ ((s[k]).toNat : Int) := by omega
          go_wp2_with fail
          go_roundw
          case rel => exact ⟨k + 1, by omega, by go_num, Lib.hid (by rw [HF.out]; exact HR.out)⟩
          case measure => simp [intOf]; omega
        · have b1 : (48 : Int) ≤ ((s[k]).toNat : Int) := by omega
          have b2 : ¬ ((s[k]).toNat : Int) ≤ 57 := by omega
          go_wp2_with fail
          go_roundw
          case rel => exact ⟨k + 1, by omega, by go_num, Lib.hid (by rw [HF.out]; exact HR.out)⟩
          case measure => simp [intOf]; omega
    · have hks : k = s.size := by omega
      have htk : s.data.toList.take k = s.data.toList := List.take_of_length_le (by rw [Array.length_toList]; show s.size ≤ k; omega)
      rw [htk] at HR
      have hst := run_str (P := Tryd.prog) und_bytes und_u8 und_str HR.out.o.rd
      clear htk hks
      go_wp2_with fail
      go_ret
      exact ⟨rfl, HR.out.kp⟩
end Go.Proofs.YtkceaepbjdfccaaDoor
