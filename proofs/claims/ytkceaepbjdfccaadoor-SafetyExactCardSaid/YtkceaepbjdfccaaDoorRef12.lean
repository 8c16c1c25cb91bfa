/-
letheref25.Read, letheref25.Match.
-/
import Derived.Test.YtkceaepbjdfccaaDoorRef11
namespace Go.Proofs.YtkceaepbjdfccaaDoor
open Go.RowKit
theorem DgM.kp0 {w wr : World} {l : List UInt8} {v : Value} (h : DgM w wr l v) : Kp [] w wr := h.kp
set_option maxRecDepth 100000 in
set_option maxHeartbeats 1000000 in
theorem rread_any (s : ByteArray) (w : World) (hs : s.size ≤ 140737488351232) :
    Calls Tryd.prog 40 #[.string s] w fun e w' => e = .returned (.tuple #[.string (strOf (rdS s.data.toList)), .int .i64 (rdErr s.data.toList)]) ∧ Kp [] w w' := by
  have HS : Hid (rdS s.data.toList = if rdOk s.data.toList = true then s.data.toList.filter dig else []) := Lib.hid rfl
  have HE : Hid (rdErr s.data.toList = if rdOk s.data.toList = true then 0 else 250) := Lib.hid rfl
  generalize rdS s.data.toList = RS at *
  generalize rdErr s.data.toList = RE at *
  have H0 : Hid (DgM w w [] (.slice none 0 0)) := Lib.hid ⟨Kp.refl _ _, Own.nil _ _ _⟩
  go_enter Tryd.func40, Tryd.ntmps40
  go_wp2_with fail
  go_loopw [4, 5] (fun v i wr => ∃ k : Nat, k ≤ s.size ∧ i = .int .i64 k ∧ Hid (DgM w wr ((s.data.toList.take k).filter dig) v ∧ (s.data.toList.take k).all (fun c => dig c || sep c) = true)) (fun _ i _ => s.size - (intOf i).toNat)
  case atStart => exact ⟨0, Nat.zero_le _, rfl, Lib.hid ⟨H0.out, rfl⟩⟩
  case round =>
    clear H0
    obtain ⟨k, hk, rfl, HR⟩ := hrel
    by_cases hlt : k < s.size
    · obtain ⟨hkl, hke⟩ := dat_get s k hlt
      have htk := take_snoc s.data.toList k hkl
      rw [hke] at htk
      obtain ⟨c, hc⟩ : ∃ c, c = s[k] := ⟨_, rfl⟩
      rw [← hc] at htk
      have HBAD := Lib.hid (rd_bad s k hlt)
      rw [← hc] at HBAD
      have HTK := Lib.hid htk
      have HC := Lib.hid hc
      have q1 : (k : Int) < (s.size : Int) := by omega
      clear hc htk hke
      by_cases hd : dig c = true
      · have h48 : 48 ≤ c.toNat ∧ c.toNat ≤ 57 := by
          unfold dig at hd
          simpa using hd
        have b1 : (48 : Int) ≤ ((s[k]).toNat : Int) := by rw [← HC.out]; omega
        have b2 : ((s[k]).toNat : Int) ≤ 57 := by rw [← HC.out]; omega
        have HF : Hid ((s.data.toList.take (k + 1)).filter dig = (s.data.toList.take k).filter dig ++ [c]) := Lib.hid (by
          rw [HTK.out, List.filter_append]
          simp [hd])
        have HOK : Hid ((s.data.toList.take (k + 1)).all (fun c => dig c || sep c) = true) := Lib.hid (by
          rw [HTK.out, List.all_append, HR.out.2]
          simp [hd])
        have HLEN : Hid (((s.data.toList.take k).filter dig).length ≤ 140737488351232) := Lib.hid (by
          have h1 := List.length_filter_le dig (s.data.toList.take k)
          have h2 : (s.data.toList.take k).length ≤ k := List.length_take_le _ _
          omega)
        clear hd h48
        go_wp2_with (first
          | (at_builtin; (refine wpl_append el_byt rfl (.tmp 22) (.tmp 24) (by rfl) (by rfl) (by rfl) (HR.out.1.o.kp0 ((Kp.refl [] wr).alloc _)) (rd_lit1 wr 5 _) (by simp [Value.oneCell']) (by have := HLEN.out; simp [bv_length]; omega) (by have := HLEN.out; simp [bv_length]; omega) (by have := HR.out.1.kp.size; simp; omega) ?_; intro v2 w5 ho5 hg5; rw [← HC.out] at ho5; have H5 := Lib.hid (HR.out.1.app ho5 hg5); clear ho5 hg5))
          | fail)
        go_roundw
        case rel => exact ⟨k + 1, by omega, by go_num, Lib.hid ⟨by rw [HF.out]; exact H5.out, HOK.out⟩⟩
        case measure => simp [intOf]; omega
      · have HF : Hid ((s.data.toList.take (k + 1)).filter dig = (s.data.toList.take k).filter dig) := Lib.hid (by
          rw [HTK.out, List.filter_append]
          simp [hd])
        have hor : ((s[k]).toNat : Int) < 48 ∨ 57 < ((s[k]).toNat : Int) := by
          rw [← HC.out]
          unfold dig at hd
          simp only [Bool.and_eq_true, decide_eq_true_eq] at hd
          omega
        have HNX : Hid (sep c = true → DgM w wr ((s.data.toList.take (k + 1)).filter dig) u4 ∧ (s.data.toList.take (k + 1)).all (fun c => dig c || sep c) = true) := Lib.hid (fun h => by
          rw [HF.out]
          refine ⟨HR.out.1, ?_⟩
          rw [HTK.out, List.all_append, HR.out.2]
          simp [h])
        have HB : Hid (sep c = false → rdOk s.data.toList = false) := Lib.hid (fun h => HBAD.out (by simp [hd, h]))
        have HSV : Hid (sep c = true ↔ c.toNat = 32 ∨ c.toNat = 9 ∨ c.toNat = 10 ∨ c.toNat = 45) := Lib.hid (by
          unfold sep
          simp only [Bool.or_eq_true, decide_eq_true_eq]
          omega)
        clear hd
        by_cases hsp : sep c = true
        · have HNN := Lib.hid (HNX.out hsp)
          have hv := HSV.out.1 hsp
          rw [HC.out] at hv
          clear hsp
          rcases hv with hv | hv | hv | hv
          · have c1 : ¬ (48 : Int) ≤ ((s[k]).toNat : Int) := by omega
            have d1 : (((s[k]).toNat : Int) != 32) = false := by simp; omega
            clear hv hor
            go_wp2_with fail
            go_roundw
            case rel => exact ⟨k + 1, by omega, by go_num, HNN⟩
            case measure => simp [intOf]; omega
          · have c1 : ¬ (48 : Int) ≤ ((s[k]).toNat : Int) := by omega
            have d1 : (((s[k]).toNat : Int) != 32) = true := by simp; omega
            have d2 : (((s[k]).toNat : Int) != 9) = false := by simp; omega
            clear hv hor
            go_wp2_with fail
            go_roundw
            case rel => exact ⟨k + 1, by omega, by go_num, HNN⟩
            case measure => simp [intOf]; omega
          · have c1 : ¬ (48 : Int) ≤ ((s[k]).toNat : Int) := by omega
            have d1 : (((s[k]).toNat : Int) != 32) = true := by simp; omega
            have d2 : (((s[k]).toNat : Int) != 9) = true := by simp; omega
            have d3 : (((s[k]).toNat : Int) != 10) = false := by simp; omega
            clear hv hor
            go_wp2_with fail
            go_roundw
            case rel => exact ⟨k + 1, by omega, by go_num, HNN⟩
            case measure => simp [intOf]; omega
          · have c1 : ¬ (48 : Int) ≤ ((s[k]).toNat : Int) := by omega
            have d1 : (((s[k]).toNat : Int) != 32) = true := by simp; omega
            have d2 : (((s[k]).toNat : Int) != 9) = true := by simp; omega
            have d3 : (((s[k]).toNat : Int) != 10) = true := by simp; omega
            have d4 : (((s[k]).toNat : Int) != 45) = false := by simp; omega
            clear hv hor
            go_wp2_with fail
            go_roundw
            case rel => exact ⟨k + 1, by omega, by go_num, HNN⟩
            case measure => simp [intOf]; omega
        · have hsp' : sep c = false := by simpa using hsp
          have HBB := Lib.hid (HB.out hsp')
          have hnv : ¬ ((s[k]).toNat = 32 ∨ (s[k]).toNat = 9 ∨ (s[k]).toNat = 10 ∨ (s[k]).toNat = 45) := fun h => hsp (HSV.out.2 (by rw [HC.out]; exact h))
          have d1 : (((s[k]).toNat : Int) != 32) = true := by simp; omega
          have d2 : (((s[k]).toNat : Int) != 9) = true := by simp; omega
          have d3 : (((s[k]).toNat : Int) != 10) = true := by simp; omega
          have d4 : (((s[k]).toNat : Int) != 45) = true := by simp; omega
          have r1 : RS = [] := by rw [HS.out, if_neg (by rw [HBB.out]; simp)]
          have r2 : RE = 250 := by rw [HE.out, if_neg (by rw [HBB.out]; simp)]
          have R1 := Lib.hid r1
          have R2 := Lib.hid r2
          clear hnv hsp hsp' r1 r2
          rcases hor with h | h
          · have c1 : ¬ (48 : Int) ≤ ((s[k]).toNat : Int) := by omega
            go_wp2_with fail
            go_ret2
            exact ⟨by rw [R1.out, R2.out]; rfl, HR.out.1.kp⟩
          · have c1 : (48 : Int) ≤ ((s[k]).toNat : Int) := by omega
            have c2 : ¬ ((s[k]).toNat : Int) ≤ 57 := by omega
            go_wp2_with fail
            go_ret2
            exact ⟨by rw [R1.out, R2.out]; rfl, HR.out.1.kp⟩
    · have hks : k = s.size := by omega
      have htk : s.data.toList.take k = s.data.toList := List.take_of_length_le (by rw [Array.length_toList]; show s.size ≤ k; omega)
      rw [htk] at HR
      have HOK : Hid (rdOk s.data.toList = decide ((s.data.toList.filter dig).length = 60)) := Lib.hid (by unfold rdOk; rw [HR.out.2, Bool.true_and])
      have hst := run_str (P := Tryd.prog) und_bytes und_u8 und_str HR.out.1.o.rd
      obtain ⟨ao, cap, hv⟩ := HR.out.1.o.rd.form
      rw [bv_length] at hv
      have HRK := Lib.hid HR.out.1.kp
      subst hv
      generalize s.data.toList.filter dig = F at *
      clear HR htk hks
      by_cases h60 : F.length = 60
      · have b : ((F.length : Int) != 60) = false := by rw [h60]; rfl
        have r1 : RS = F := by rw [HS.out, if_pos (by rw [HOK.out]; simpa using h60)]
        have r2 : RE = 0 := by rw [HE.out, if_pos (by rw [HOK.out]; simpa using h60)]
        have R1 := Lib.hid r1
        have R2 := Lib.hid r2
        clear r1 r2 h60
        go_wp2_with fail
        go_ret2
        exact ⟨by rw [R1.out, R2.out]; rfl, HRK.out⟩
      · have b : ((F.length : Int) != 60) = true := by simp; omega
        have r1 : RS = [] := by rw [HS.out, if_neg (by rw [HOK.out]; simpa using h60)]
        have r2 : RE = 250 := by rw [HE.out, if_neg (by rw [HOK.out]; simpa using h60)]
        have R1 := Lib.hid r1
        have R2 := Lib.hid r2
        clear r1 r2 h60
        go_wp2_with fail
        go_ret2
        exact ⟨by rw [R1.out, R2.out]; rfl, HRK.out⟩
set_option maxRecDepth 100000 in
set_option maxHeartbeats 1000000 in
theorem rmatch_any (kk bg : List Int) (t : ByteArray) (a : ByteArray) (ka : List Int) (b : ByteArray) (kb : List Int) (hka : ka.length = 32) (hkb : kb.length = 32) (hka8 : ∀ x ∈ ka, B8 x) (hkb8 : ∀ x ∈ kb, B8 x) (w : World) (hT : Tabr kk bg w) (ht : t.size ≤ 140737488351232) (ha : a.size ≤ 140737488351232) (hb : b.size ≤ 140737488351232) :
    Calls Tryd.prog 41 #[.string t, .string a, .agg (u8s ka), .string b, .agg (u8s kb)] w fun e w' => e = .returned (.tuple #[.bool (mtB kk bg t a ka b kb), .int .i64 (mtErr t.data.toList a.size b.size)]) ∧ Kp [] w w' := by
  have HT := Lib.hid hT
  have hza : (u8s ka).size = 32 := by rw [u8s_size, hka]
  have hzb : (u8s kb).size = 32 := by rw [u8s_size, hkb]
  have HZA := Lib.hid hza
  have HZB := Lib.hid hzb
  have HJ := Lib.hid (fun W hW => rdigits_any kk bg a ka b kb hka hkb hka8 hkb8 W hW ha hb)
  have HR := Lib.hid (fun W => rread_any t W ht)
  have HE : Hid (mtErr t.data.toList a.size b.size = if rdErr t.data.toList = 0 then twoErr a.size b.size else rdErr t.data.toList) := Lib.hid rfl
  have HB : Hid (mtB kk bg t a ka b kb = (decide (mtErr t.data.toList a.size b.size = 0) && decide (rdS t.data.toList = jnS kk bg a ka b kb))) := Lib.hid rfl
  have hK : Hid ((((w.alloc (.cells (u8s ka) 22)).alloc (.cells (u8s kb) 22)).heap[w.heap.size]? = some (.cells (u8s ka) 22 (0, 0))) ∧ (((w.alloc (.cells (u8s ka) 22)).alloc (.cells (u8s kb) 22)).heap[w.heap.size + 1]? = some (.cells (u8s kb) 22 (0, 0))) ∧ Kp [] w ((w.alloc (.cells (u8s ka) 22)).alloc (.cells (u8s kb) 22))) :=
    Lib.hid ⟨heap_alloc2_old w _ _, heap_alloc2_new w _ _, ((Kp.refl [] w).alloc _).alloc _⟩
  generalize mtB kk bg t a ka b kb = R at *
  generalize mtErr t.data.toList a.size b.size = ME at *
  generalize jnS kk bg a ka b kb = J at *
  generalize twoErr a.size b.size = E at *
  generalize rdS t.data.toList = D at *
  generalize rdErr t.data.toList = RE at *
  clear hT hza hzb
  by_cases h1 : RE = 0
  · subst h1
    have HME : Hid (ME = E) := Lib.hid (HE.out.trans (if_pos rfl))
    by_cases h2 : E = 0
    · subst h2
      go_enter Tryd.func41, Tryd.ntmps41
      go_wp2_with (first
        | (refine wpList_load_row (by rfl) 22 (.tmp 7) (by rfl) w.heap.size (by rfl) 22 (u8s ka) (0, 0) _ HK1.out.2.1 Tryd.underlying22 rfl (by rw [HZA.out]; kernel_rfl) ?_)
        | (refine wpList_load_row (by rfl) 22 (.tmp 9) (by rfl) (w.heap.size + 1) (by rfl) 22 (u8s kb) (0, 0) _ HK1.out.2.2 Tryd.underlying22 rfl (by rw [HZB.out]; kernel_rfl) ?_)
        | (go_at_call 40; go_must (refine (HR.out _).mono ?_; rintro e w1 ⟨rfl, hk1⟩; have HK1 := Lib.hid (And.intro (hK.out.2.2.trans0 hk1) (And.intro (hk1.heap hK.out.1 (by simp)) (hk1.heap hK.out.2.1 (by simp)))); clear hk1))
        | (go_at_call 63; go_must (refine (HJ.out _ (HT.out.kp HK1.out.1)).mono ?_; rintro e w2 ⟨rfl, hk2⟩; have HK2 := Lib.hid (HK1.out.1.trans0 hk2); clear hk2)))
      go_ret2
      have hR : R = decide (D = J) := by rw [HB.out, HME.out]; simp
      exact ⟨by rw [hR, HME.out, ← str_beq]; rfl, HK2.out⟩
    · have hb2 : (E != 0) = true := by simpa using h2
      have hR : R = false := by rw [HB.out, HME.out]; simp [h2]
      have HRR := Lib.hid hR
      clear h2 hR
      go_enter Tryd.func41, Tryd.ntmps41
      go_wp2_with (first
        | (refine wpList_load_row (by rfl) 22 (.tmp 7) (by rfl) w.heap.size (by rfl) 22 (u8s ka) (0, 0) _ HK1.out.2.1 Tryd.underlying22 rfl (by rw [HZA.out]; kernel_rfl) ?_)
        | (refine wpList_load_row (by rfl) 22 (.tmp 9) (by rfl) (w.heap.size + 1) (by rfl) 22 (u8s kb) (0, 0) _ HK1.out.2.2 Tryd.underlying22 rfl (by rw [HZB.out]; kernel_rfl) ?_)
        | (go_at_call 40; go_must (refine (HR.out _).mono ?_; rintro e w1 ⟨rfl, hk1⟩; have HK1 := Lib.hid (And.intro (hK.out.2.2.trans0 hk1) (And.intro (hk1.heap hK.out.1 (by simp)) (hk1.heap hK.out.2.1 (by simp)))); clear hk1))
        | (go_at_call 63; go_must (refine (HJ.out _ (HT.out.kp HK1.out.1)).mono ?_; rintro e w2 ⟨rfl, hk2⟩; have HK2 := Lib.hid (HK1.out.1.trans0 hk2); clear hk2)))
      go_ret2
      exact ⟨by rw [HRR.out, HME.out]; rfl, HK2.out⟩
  · have hb2 : (RE != 0) = true := by simpa using h1
    have HME : Hid (ME = RE) := Lib.hid (HE.out.trans (if_neg h1))
    have hR : R = false := by rw [HB.out, HME.out]; simp [h1]
    have HRR := Lib.hid hR
    clear h1 hR
    go_enter Tryd.func41, Tryd.ntmps41
    go_wp2_with (first
        | (go_at_call 40; go_must (refine (HR.out _).mono ?_; rintro e w1 ⟨rfl, hk1⟩; have HK1 := Lib.hid (And.intro (hK.out.2.2.trans0 hk1) (And.intro (hk1.heap hK.out.1 (by simp)) (hk1.heap hK.out.2.1 (by simp)))); clear hk1)))
    go_ret2
    exact ⟨by rw [HRR.out, HME.out]; rfl, HK1.out.1⟩
end Go.Proofs.YtkceaepbjdfccaaDoor
