/-
sha.Sum.
-/
import Derived.Test.YtkceaepbjdfccaaDoorSha6
namespace Go.Proofs.YtkceaepbjdfccaaDoor
open Go.RowKit
/-- the hash of a message -/
def sha (kk bg m : List Int) : List Int := ((hs0 bg).puts kk m).fin kk
theorem sha_len (kk bg m : List Int) : (sha kk bg m).length = 32 := Hs.fin_len _ _
/-- the two tables of package sha -/
structure Tabs (kk bg : List Int) (w : World) : Prop where
  hk : kk.length = 64
  hb : bg.length = 8
  ck : ∃ T fr, w.heap[1]? = some (.cells (u32s kk) T fr)
  cb : ∃ T fr, w.heap[0]? = some (.cells (u32s bg) T fr)
theorem Tabs.kp {kk bg : List Int} {w w' : World} (h : Tabs kk bg w) (k : Kp [] w w') : Tabs kk bg w' := by
  obtain ⟨h1, h2, ⟨t1, f1, c1⟩, ⟨t2, f2, c2⟩⟩ := h
  exact ⟨h1, h2, ⟨t1, f1, k.heap c1 (by simp)⟩, ⟨t2, f2, k.heap c2 (by simp)⟩⟩
/-- v reads as slices that read as these bytes -/
def Rdi (w : World) (v : Value) (ls : List (List Int)) : Prop :=
  ∃ vals : List Value, Rd w v vals ∧ vals.length = ls.length ∧ ∀ (i : Nat) (x : Value) (l : List Int), vals[i]? = some x → ls[i]? = some l → Rd w x (iv l)
theorem Rdi.kp {w w' : World} {v : Value} {ls : List (List Int)} (h : Rdi w v ls) (k : Kp [] w w') : Rdi w' v ls := by
  obtain ⟨vals, h1, h2, h3⟩ := h
  exact ⟨vals, h1.kp0 k, h2, fun i x l hx hl => (h3 i x l hx hl).kp0 k⟩
theorem Rdi.form {w : World} {v : Value} {ls : List (List Int)} (h : Rdi w v ls) : ∃ ao cap, v = .slice ao ls.length cap := by
  obtain ⟨vals, h1, h2, _⟩ := h
  obtain ⟨ao, cap, rfl⟩ := h1.form
  exact ⟨ao, cap, by rw [h2]⟩
theorem Rdi.at {w : World} {ao : Option Addr} {n cap : Nat} {ls : List (List Int)} (h : Rdi w (.slice ao n cap) ls) {k : Nat} (hk : k < ls.length) :
    ∃ b off, ao = some ⟨b, off, none⟩ ∧ ∃ x, w.cell? ⟨b, off + k, none⟩ = some x ∧ Rd w x (iv ls[k]) := by
  obtain ⟨vals, h1, h2, h3⟩ := h
  have hn := h1.len
  obtain ⟨b, off, ha, hx, hc⟩ := h1.at (k := k) (by omega)
  exact ⟨b, off, ha, vals[k], hc, h3 k vals[k] ls[k] (List.getElem?_eq_getElem hx) (List.getElem?_eq_getElem hk)⟩
/-- a Hash in c, the result's box in A -/
structure SQ (w wr : World) (A c : Nat) (H : Hs) : Prop where
  k : Kp [] w wr
  hA : w.heap.size ≤ A
  hc : A < c
  h : HashAt wr c H
  box : ∃ old, old.size = 32 ∧ wr.heap[A]? = some (.cells old 25 (0, 0))
theorem SQ.put {w wr w' : World} {A c : Nat} {H H' : Hs} (h : SQ w wr A c H) (k : Kp [c] wr w') (h' : HashAt w' c H') : SQ w w' A c H' := by
  have hA := h.hA
  have hc := h.hc
  obtain ⟨old, ho, hb⟩ := h.box
  exact ⟨h.k.trans k (fun m hm => by rw [List.mem_singleton] at hm; subst hm; exact .inr (by omega)), hA, hc, h', old, ho, k.heap hb (by simp; omega)⟩
set_option maxRecDepth 100000 in
set_option maxHeartbeats 1000000 in
theorem shasum_any (kk bg : List Int) (v : Value) (ls : List (List Int)) (w : World) (hT : Tabs kk bg w) (hv : Rdi w v ls) (hl : ls.flatten.length ≤ 562949953421312) (hll : ls.length ≤ 562949953421312) :
    Calls Tryd.prog 13 #[v] w fun e w' => e = .returned (.agg (u8s (sha kk bg ls.flatten))) ∧ Kp [] w w' := by
  obtain ⟨ao, cap, rfl⟩ := hv.form
  have HT := Lib.hid hT
  have HV := Lib.hid hv
  have HL := Lib.hid hl
  have HR : Hid (sha kk bg ls.flatten = ((hs0 bg).puts kk ls.flatten).fin kk) := Lib.hid rfl
  generalize sha kk bg ls.flatten = res at *
  have HN : Hid (∀ w', Kp [] w w' → Calls Tryd.prog 34 #[] w' fun e w'' => ∃ c, e = .returned (.pointer (some ⟨c, 0, none⟩)) ∧ w'.heap.size ≤ c ∧ Kp [] w' w'' ∧ HashAt w'' c (hs0 bg)) := Lib.hid (fun w' k => by
    obtain ⟨_, fr, hb⟩ := (hT.kp k).cb
    refine (new_any bg hT.hb w' fr hb).mono ?_
    rintro e w'' ⟨rfl, h1, h2, _⟩
    exact ⟨_, rfl, Nat.le_refl _, h1, h2⟩)
  clear hT hv hl
  go_enter Tryd.func13, Tryd.ntmps13
  go_wp2_with (go_at_call 34; go_must (refine (HN.out _ ((Kp.refl [] w).alloc _)).mono ?_; rintro e w1 ⟨c, rfl, hz, hk1, hh⟩; have HS : Hid (SQ w w1 w.heap.size c (hs0 bg)) := Lib.hid ⟨((Kp.refl [] w).alloc _).trans0 hk1, Nat.le_refl _, (by simp at hz; omega), hh, _, rfl, hk1.heap (heap_alloc_new w _) (by simp)⟩; clear hz hk1 hh))
  clear HN
  generalize w.heap.size = A at *
  go_loopw [9] (fun i wr => ∃ k : Nat, k ≤ ls.length ∧ i = .int .i64 k ∧ Hid (SQ w wr A c ((hs0 bg).puts kk (ls.take k).flatten))) (fun i _ => ls.length - (intOf i).toNat)
  case atStart => exact ⟨0, Nat.zero_le _, rfl, HS⟩
  case round =>
    clear HS
    obtain ⟨k, hk, rfl, HS⟩ := hrel
    by_cases hlt : k < ls.length
    · obtain ⟨b, off, hao, x, hc0, hr0⟩ := HV.out.at hlt
      subst hao
      have hc : wr.cell? ⟨b, off + k, none⟩ = some x := HS.out.k.cell_some hc0 (by simp)
      have hr := hr0.kp0 HS.out.k
      have HNE : Hid (ls[k] ≠ [] → ∀ b, x.ownBlock = some b → b ≠ c) := Lib.hid (fun hn b hb => by
        have h1 := hr0.lt (fun e => hn (List.map_eq_nil_iff.1 e)) hb
        have h2 := HS.out.hA
        have h3 := HS.out.hc
        omega)
      clear hc0 hr0
      have i0 : (k : Int) < (ls.length : Int) := by omega
      have HX := Lib.hid hr
      have HP : Hid ((ls.take (k + 1)).flatten = (ls.take k).flatten ++ ls[k]) := Lib.hid (by rw [List.take_succ_eq_append_getElem hlt, List.flatten_append]; simp)
      have HB : Hid (((hs0 bg).puts kk (ls.take k).flatten).n + ls[k].length ≤ 4611686018427387904) := Lib.hid (by
        rw [Hs.puts_n]
        have e : (ls.take (k + 1)).flatten.length ≤ ls.flatten.length := by
          conv => rhs; rw [← List.take_append_drop (k + 1) ls]
          rw [List.flatten_append, List.length_append]; omega
        rw [HP.out, List.length_append] at e
        have := HL.out
        simp only [hs0]
        omega)
      clear hr
      obtain ⟨_, fr, hck⟩ := (HT.out.kp HS.out.k).ck
      have HW := Lib.hid (write_any kk HT.out.hk c _ x ls[k] wr fr hck (by
        obtain ⟨_, fr, h⟩ := HT.out.ck
        have h1 := (Array.getElem?_eq_some_iff.1 h).1
        have h2 := HS.out.hA
        have h3 := HS.out.hc
        omega) HS.out.h HX.out HNE.out HB.out)
      clear hck
      go_wp2_with (go_at_call 35; go_must (refine HW.out.mono ?_; rintro e w2 ⟨rfl, h1, h2⟩; have HS2 : Hid (SQ w w2 A c (((hs0 bg).puts kk (ls.take k).flatten).puts kk ls[k])) := Lib.hid (HS.out.put h1 h2); clear h1 h2))
      go_roundw
      case rel => exact ⟨k + 1, by omega, by go_num, Lib.hid (by rw [HP.out, Hs.puts_append]; exact HS2.out)⟩
      case measure => simp [intOf]; omega
    · have hkl : k = ls.length := by omega
      subst hkl
      rw [List.take_length] at HS
      obtain ⟨_, fr, hck⟩ := (HT.out.kp HS.out.k).ck
      have HU := Lib.hid (sum_any kk HT.out.hk c _ wr fr hck HS.out.h (by rw [Hs.puts_n]; have := HL.out; simp only [hs0]; omega))
      clear hck
      rw [← HR.out] at HU
      have HRL : Hid ((u8s res).size = 32) := Lib.hid (by rw [HR.out, u8s_size, Hs.fin_len])
      obtain ⟨old, ho, hb⟩ := HS.out.box
      have HO := Lib.hid ho
      have HB := Lib.hid hb
      clear ho hb
      go_wp2_with (first
        | (go_at_call 36; go_must (refine HU.out.mono ?_; rintro e w2 ⟨rfl, h1⟩; have HS2 := Lib.hid (And.intro h1 (h1.heap HB.out (by simp))); clear h1))
        | (refine wpList_store_row (by rfl) 25 (.tmp 2) (.tmp 18) (by rfl) A (u8s res) (by rfl) (by rfl) 25 old HS2.out.2 (by rw [HRL.out]; kernel_rfl) (by rw [HRL.out, HO.out]) (one_u8s _) ?_))
      have r2 := setRow_heap w2 A _ (u8s res) _ _ HS2.out.2
      have r1 := (HS.out.k.trans0 HS2.out.1).trans (kp_setRow w2 A (u8s res)) (fun m hm => by rw [List.mem_singleton] at hm; subst hm; exact .inr HS.out.hA)
      exact bodyPost_ret (results_cell_row rfl _ _ A 25 _ (0, 0) _ rfl r2 Tryd.underlying25 rfl (by rw [HRL.out]; kernel_rfl)) rfl ⟨rfl, r1⟩
end Go.Proofs.YtkceaepbjdfccaaDoor
