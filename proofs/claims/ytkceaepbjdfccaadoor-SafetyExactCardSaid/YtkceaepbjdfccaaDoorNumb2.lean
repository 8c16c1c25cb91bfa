/-
safety.Read, safety.Match.
-/
import Derived.Test.YtkceaepbjdfccaaDoorNumb1
import Derived.Laws.RangeAny
import Derived.Lib.OthersKept
namespace Go.Proofs.YtkceaepbjdfccaaDoor
open Go.RowKit
/-- a digit -/
def dig (c : UInt8) : Bool := decide (48 ≤ c.toNat) && decide (c.toNat ≤ 57)
/-- what may stand between digits -/
def sep (c : UInt8) : Bool := decide (c.toNat = 32) || decide (c.toNat = 9) || decide (c.toNat = 10) || decide (c.toNat = 45)
/-- does a text read as a number? -/
def rdOk (l : List UInt8) : Bool := l.all (fun c => dig c || sep c) && decide ((l.filter dig).length = 60)
def rdS (l : List UInt8) : List UInt8 := if rdOk l = true then l.filter dig else []
def rdErr (l : List UInt8) : Int := if rdOk l = true then 0 else 250
/-- while a text is read -/
structure RdM (w wr : World) (it : Nat) (s : ByteArray) (k : Nat) (v : Value) : Prop where
  kp : Kp [] w wr
  hi : w.heap.size ≤ it
  it : wr.heap[it]? = some (.stringIter s k)
  o : Own wr w.heap.size 5 v (bv ((s.data.toList.take k).filter dig))
  ok : (s.data.toList.take k).all (fun c => dig c || sep c) = true
theorem kp_iterAt (w : World) (it : Nat) (s : ByteArray) (p : Nat) : Kp [it] w (w.iterAt it s p) :=
  ⟨rfl, rfl, rfl, by rw [Lib.iterAt_size]; exact Nat.le_refl _, fun j _ hn => Lib.iterAt_other w it j s p (by simpa using hn)⟩
theorem RdM.next {w wr : World} {it : Nat} {s : ByteArray} {k : Nat} {v : Value} (h : RdM w wr it s k v) (p : Nat) :
    Kp [] w (wr.iterAt it s p) ∧ (wr.iterAt it s p).heap[it]? = some (.stringIter s p) ∧ Own (wr.iterAt it s p) w.heap.size 5 v (bv ((s.data.toList.take k).filter dig)) := by
  have hi := h.hi
  refine ⟨h.kp.trans (kp_iterAt wr it s p) (fun m hm => by rw [List.mem_singleton] at hm; subst hm; exact .inr hi), Lib.iterAt_heap wr it s k p h.it, h.o.kp (kp_iterAt wr it s p) (fun b hb => ?_)⟩
  rw [List.mem_singleton]
  intro e
  subst e
  rcases h.o.2 with ⟨rfl, _⟩ | ⟨g, cap, cur, rfl, _, hg, _⟩
  · cases hb
  · cases hb
    rw [h.it] at hg
    cases hg
theorem Kp.app {w w1 w5 : World} {it : Nat} {s : ByteArray} {k : Nat} {v v2 : Value} {l : List UInt8} {c : UInt8} {ob : Obj} (h : Kp [] w w1) (hi : w.heap.size ≤ it) (hit : w1.heap[it]? = some (.stringIter s k)) (ho : Own w1 w.heap.size 5 v (bv l))
    (ho5 : Own w5 w.heap.size 5 v2 (bv l ++ [.int .u8 (c.toNat : Int)])) (hg5 : (w1.alloc ob).grownBy w5 v.ownBlock) (hF : (s.data.toList.take k).filter dig = l ++ [c]) (hok : (s.data.toList.take k).all (fun c => dig c || sep c) = true) : RdM w w5 it s k v2 := by
  have k0 : Kp [] w1 (w1.alloc ob) := (Kp.refl _ _).alloc _
  have k1 : Kp v.ownBlock.toList (w1.alloc ob) w5 := Kp.of_grown hg5 (fun k hk => .inl (by rw [hk]; simp))
  refine ⟨(h.trans0 k0).trans k1 (fun m hm => ?_), hi, k1.heap (k0.heap hit (by simp)) (fun hm => ?_), ?_, hok⟩
  · rw [Option.mem_toList] at hm
    exact .inr (ho.lt hm).1
  · rw [Option.mem_toList] at hm
    rcases ho.2 with ⟨rfl, _⟩ | ⟨g, cap, cur, rfl, _, hg, _⟩
    · cases hm
    · cases hm
      rw [hit] at hg
      cases hg
  · rw [hF, bv_append]
    exact ho5
theorem take_snoc (l : List UInt8) (k : Nat) (h : k < l.length) : l.take (k + 1) = l.take k ++ [l[k]] := List.take_succ_eq_append_getElem h
theorem dat_get (s : ByteArray) (k : Nat) (h : k < s.size) : ∃ h' : k < s.data.toList.length, s.data.toList[k] = s[k] := by
  refine ⟨by rw [Array.length_toList]; exact h, ?_⟩
  rw [Array.getElem_toList]; rfl
/-- a byte that is no good -/
theorem rd_bad (s : ByteArray) (k : Nat) (h : k < s.size) (hb : (dig s[k] || sep s[k]) = false) : rdOk s.data.toList = false := by
  obtain ⟨h', e⟩ := dat_get s k h
  unfold rdOk
  rw [Bool.and_eq_false_iff]
  refine .inl ?_
  rw [List.all_eq_false]
  exact ⟨s.data.toList[k], List.getElem_mem h', by rw [e, hb]; simp⟩
set_option maxRecDepth 100000 in
set_option maxHeartbeats 1000000 in
theorem read_any (s : ByteArray) (w : World) (hs : s.size ≤ 140737488351232) :
    Calls Tryd.prog 18 #[.string s] w fun e w' => e = .returned (.tuple #[.string (strOf (rdS s.data.toList)), .int .i64 (rdErr s.data.toList)]) ∧ Kp [] w w' := by
  have HS : Hid (rdS s.data.toList = if rdOk s.data.toList = true then s.data.toList.filter dig else []) := Lib.hid rfl
  have HE : Hid (rdErr s.data.toList = if rdOk s.data.toList = true then 0 else 250) := Lib.hid rfl
  generalize rdS s.data.toList = RS at *
  generalize rdErr s.data.toList = RE at *
  have H0 : Hid (RdM w (w.iter s 0) w.heap.size s 0 (.slice none 0 0)) := Lib.hid ⟨(Kp.refl [] w).alloc _, Nat.le_refl _, World.iter_heap w s 0, Own.nil _ _ _, rfl⟩
  go_enter Tryd.func18, Tryd.ntmps18
  go_wp2_with fail
  generalize w.heap.size = it at *
  go_loopg [4] s.size (fun q v wr => Hid (∃ k, k + q = s.size ∧ RdM w wr it s k v))
  case atStart => exact Lib.hid ⟨0, by omega, H0.out⟩
  case round =>
    clear H0
    obtain ⟨k, hkq, hR⟩ := hrel.out
    have HR := Lib.hid hR
    clear hrel
    by_cases hlt : k < s.size
    · obtain ⟨p, hp⟩ : ∃ p, p = k + (Utf8.decode s k).2 := ⟨_, rfl⟩
      have hn := fun ty => Lib.run_next_any_at (P := Tryd.prog) wr it s k ty hR.it hlt
      rw [← hp] at hn
      have HN := Lib.hid (hR.next p)
      generalize wr.iterAt it s p = w1 at *
      by_cases h128 : 128 ≤ (s[k]).toNat
      · have hr := (decode_high s k hlt h128).1
        have HB : Hid (rdOk s.data.toList = false) := Lib.hid (rd_bad s k hlt (by
          unfold dig sep
          have a1 : ¬ (s[k]).toNat ≤ 57 := by omega
          have a2 : ¬ (s[k]).toNat = 32 := by omega
          have a3 : ¬ (s[k]).toNat = 9 := by omega
          have a4 : ¬ (s[k]).toNat = 10 := by omega
          have a5 : ¬ (s[k]).toNat = 45 := by omega
          simp [a1, a2, a3, a4, a5]))
        have hle := decode_le s k
        generalize (Utf8.decode s k).1 = R at *
        have b1 : ((R : Int) == 32) = false := by rw [beq_eq_false_iff_ne]; omega
        have b2 : ((R : Int) == 9) = false := by rw [beq_eq_false_iff_ne]; omega
        have b3 : ((R : Int) == 10) = false := by rw [beq_eq_false_iff_ne]; omega
        have b4 : ((R : Int) == 45) = false := by rw [beq_eq_false_iff_ne]; omega
        have b5 : ¬ (R : Int) < 48 := by omega
        have b6 : 57 < (R : Int) := by omega
        have HP := Lib.hid hp
        clear hp hR
        go_wp2_with fail
        go_ret2
        have r1 : RS = [] := by rw [HS.out, if_neg (by rw [HB.out]; simp)]
        have r2 : RE = 250 := by rw [HE.out, if_neg (by rw [HB.out]; simp)]
        exact ⟨by rw [r1, r2]; rfl, HN.out.1⟩
      · have hd := decode_ascii s k hlt (by omega)
        rw [hd] at hn hp
        simp only at hn hp
        obtain ⟨hkl, hke⟩ := dat_get s k hlt
        have HTK := Lib.hid (take_snoc s.data.toList k hkl)
        have HKE := Lib.hid hke
        have HBAD := Lib.hid (rd_bad s k hlt)
        obtain ⟨c, hc⟩ : ∃ c, c = s[k] := ⟨_, rfl⟩
        rw [← hc] at hn h128 hke
        have HBD : Hid ((dig c || sep c) = false → rdOk s.data.toList = false) := Lib.hid (by rw [hc]; exact HBAD.out)
        have HCE := Lib.hid hke
        have HC := Lib.hid hc
        subst hp
        clear hc hd hke HKE HBAD
        have hlt2 := c.toNat_lt
        by_cases hsp : sep c = true
        · have HSP : Hid (RdM w w1 it s (k + 1) u4) := Lib.hid ⟨HN.out.1, HR.out.hi, HN.out.2.1, by
            rw [HTK.out, HCE.out, List.filter_append]
            have hnd : dig c = false := by
              unfold sep at hsp; unfold dig
              simp only [Bool.or_eq_true, decide_eq_true_eq] at hsp
              rcases hsp with ((h | h) | h) | h <;> rw [h] <;> rfl
            simp only [List.filter_cons, hnd, List.filter_nil]
            simpa using HN.out.2.2, by
            rw [HTK.out, HCE.out, List.all_append, HR.out.ok]
            simp [hsp]⟩
          have hv : c.toNat = 32 ∨ c.toNat = 9 ∨ c.toNat = 10 ∨ c.toNat = 45 := by
            unfold sep at hsp
            simp only [Bool.or_eq_true, decide_eq_true_eq] at hsp
            omega
          have HHN := Lib.hid hv
          generalize c.toNat = R at *
          clear hR hsp hv
          rcases HHN.out with hv | hv | hv | hv
          · -- the byte 32
            have b0 : ((R : Int) == 32) = true := by rw [beq_iff_eq]; omega
            go_wp2_with fail
            go_roundg (gk - 1)
            case measure => omega
            case rel => exact Lib.hid ⟨k + 1, by omega, HSP.out⟩
          · -- the byte 9
            have b0 : ((R : Int) == 32) = false := by rw [beq_eq_false_iff_ne]; omega
            have b1 : ((R : Int) == 9) = true := by rw [beq_iff_eq]; omega
            go_wp2_with fail
            go_roundg (gk - 1)
            case measure => omega
            case rel => exact Lib.hid ⟨k + 1, by omega, HSP.out⟩
          · -- the byte 10
            have b0 : ((R : Int) == 32) = false := by rw [beq_eq_false_iff_ne]; omega
            have b1 : ((R : Int) == 9) = false := by rw [beq_eq_false_iff_ne]; omega
            have b2 : ((R : Int) == 10) = true := by rw [beq_iff_eq]; omega
            go_wp2_with fail
            go_roundg (gk - 1)
            case measure => omega
            case rel => exact Lib.hid ⟨k + 1, by omega, HSP.out⟩
          · -- the byte 45
            have b0 : ((R : Int) == 32) = false := by rw [beq_eq_false_iff_ne]; omega
            have b1 : ((R : Int) == 9) = false := by rw [beq_eq_false_iff_ne]; omega
            have b2 : ((R : Int) == 10) = false := by rw [beq_eq_false_iff_ne]; omega
            have b3 : ((R : Int) == 45) = true := by rw [beq_iff_eq]; omega
            go_wp2_with fail
            go_roundg (gk - 1)
            case measure => omega
            case rel => exact Lib.hid ⟨k + 1, by omega, HSP.out⟩
        · have hsp' : sep c = false := by simpa using hsp
          have n32 : ¬ c.toNat = 32 := by intro h; unfold sep at hsp'; simp [h] at hsp'
          have n9 : ¬ c.toNat = 9 := by intro h; unfold sep at hsp'; simp [h] at hsp'
          have n10 : ¬ c.toNat = 10 := by intro h; unfold sep at hsp'; simp [h] at hsp'
          have n45 : ¬ c.toNat = 45 := by intro h; unfold sep at hsp'; simp [h] at hsp'
          have b1 : ((c.toNat : Int) == 32) = false := by rw [beq_eq_false_iff_ne]; omega
          have b2 : ((c.toNat : Int) == 9) = false := by rw [beq_eq_false_iff_ne]; omega
          have b3 : ((c.toNat : Int) == 10) = false := by rw [beq_eq_false_iff_ne]; omega
          have b4 : ((c.toNat : Int) == 45) = false := by rw [beq_eq_false_iff_ne]; omega
          by_cases hdg : dig c = true
          · have h48 : 48 ≤ c.toNat ∧ c.toNat ≤ 57 := by
              unfold dig at hdg
              simpa using hdg
            have hown := HN.out.2.2
            have HOW := Lib.hid hown
            have HF : Hid ((s.data.toList.take (k + 1)).filter dig = (s.data.toList.take k).filter dig ++ [c]) := Lib.hid (by
              rw [HTK.out, HCE.out, List.filter_append]
              simp [hdg])
            have HOK : Hid ((s.data.toList.take (k + 1)).all (fun c => dig c || sep c) = true) := Lib.hid (by
              rw [HTK.out, HCE.out, List.all_append, HR.out.ok]
              simp [hdg])
            have HLEN : Hid (((s.data.toList.take k).filter dig).length ≤ 140737488351232) := Lib.hid (by
              have h1 := List.length_filter_le dig (s.data.toList.take k)
              have h2 : (s.data.toList.take k).length ≤ k := List.length_take_le _ _
              omega)
            have b5 : ¬ (c.toNat : Int) < 48 := by omega
            have b6 : ¬ 57 < (c.toNat : Int) := by omega
            clear hR hown hsp hsp' n32 n9 n10 n45 hdg
            go_wp2_with (first
              | (at_builtin; go_must (refine wpl_append el_byt rfl (.tmp 25) (.tmp 28) (by rfl) (by rfl) (by rfl) (HOW.out.kp0 ((Kp.refl [] w1).alloc _)) (rd_lit1 w1 5 _) (by simp [Value.oneCell']) (by have := HLEN.out; simp [bv_length]; omega) (by have := HLEN.out; simp [bv_length]; omega) (by have := HN.out.1.size; simp; omega) ?_; intro v2 w5 ho5 hg5; have H5 : Hid (RdM w w5 it s (k + 1) v2) := Lib.hid (HN.out.1.app HR.out.hi HN.out.2.1 HN.out.2.2 ho5 hg5 HF.out HOK.out); clear ho5 hg5))
              | fail)
            go_roundg (gk - 1)
            case measure => omega
            case rel => exact Lib.hid ⟨k + 1, by omega, H5.out⟩
          · have HB := Lib.hid (HBD.out (by simp [hdg, hsp']))
            have hor : (c.toNat : Int) < 48 ∨ 57 < (c.toNat : Int) := by
              unfold dig at hdg
              simp only [Bool.and_eq_true, decide_eq_true_eq] at hdg
              omega
            have r1 : RS = [] := by rw [HS.out, if_neg (by rw [HB.out]; simp)]
            have r2 : RE = 250 := by rw [HE.out, if_neg (by rw [HB.out]; simp)]
            have R1 := Lib.hid r1
            have R2 := Lib.hid r2
            clear hR hdg hsp hsp' r1 r2
            rcases hor with h | h
            · go_wp2_with fail
              go_ret2
              exact ⟨by rw [R1.out, R2.out]; rfl, HN.out.1⟩
            · have b5 : ¬ (c.toNat : Int) < 48 := by omega
              go_wp2_with fail
              go_ret2
              exact ⟨by rw [R1.out, R2.out]; rfl, HN.out.1⟩
    · have hks : k = s.size := by omega
      have hn := fun ty => Lib.run_next_end_at (P := Tryd.prog) wr it s k ty hR.it hlt
      have hall := hR.ok
      have hown := hR.o
      have htk : s.data.toList.take k = s.data.toList := List.take_of_length_le (by rw [Array.length_toList]; show s.size ≤ k; omega)
      rw [htk] at hall hown
      have hst := run_str (P := Tryd.prog) und_bytes und_u8 und_str hown.rd
      obtain ⟨ao, cap, hv⟩ := hown.rd.form
      rw [bv_length] at hv
      have HOK : Hid (rdOk s.data.toList = decide ((s.data.toList.filter dig).length = 60)) := Lib.hid (by unfold rdOk; rw [hall, Bool.true_and])
      subst hv
      generalize s.data.toList.filter dig = F at *
      clear hR hall hown htk hks
      by_cases h60 : F.length = 60
      · have b : ((F.length : Int) != 60) = false := by rw [h60]; rfl
        have r1 : RS = F := by rw [HS.out, if_pos (by rw [HOK.out]; simpa using h60)]
        have r2 : RE = 0 := by rw [HE.out, if_pos (by rw [HOK.out]; simpa using h60)]
        have R1 := Lib.hid r1
        have R2 := Lib.hid r2
        clear r1 r2 h60
        go_wp2_with fail
        go_ret2
        exact ⟨by rw [R1.out, R2.out]; rfl, HR.out.kp⟩
      · have b : ((F.length : Int) != 60) = true := by simp; omega
        have r1 : RS = [] := by rw [HS.out, if_neg (by rw [HOK.out]; simpa using h60)]
        have r2 : RE = 250 := by rw [HE.out, if_neg (by rw [HOK.out]; simpa using h60)]
        have R1 := Lib.hid r1
        have R2 := Lib.hid r2
        clear r1 r2 h60
        go_wp2_with fail
        go_ret2
        exact ⟨by rw [R1.out, R2.out]; rfl, HR.out.kp⟩
/-- what Match answers -/
def mtErr (l : List UInt8) (m n : Nat) : Int := if rdErr l = 0 then twoErr m n else rdErr l
def mtB (kk bg : List Int) (t : ByteArray) (a : ByteArray) (ka : List Int) (b : ByteArray) (kb : List Int) : Bool :=
  decide (mtErr t.data.toList a.size b.size = 0) && decide (rdS t.data.toList = jnS kk bg a ka b kb)
theorem str_beq (D J : List UInt8) : ((strOf D).toList == (strOf J).toList) = decide (D = J) := by
  rw [ByteArray.toList_eq, ByteArray.toList_eq, strOf_toList, strOf_toList, Bool.eq_iff_iff]
  simp
set_option maxRecDepth 100000 in
set_option maxHeartbeats 1000000 in
theorem match_any (kk bg : List Int) (t : ByteArray) (a : ByteArray) (ka : List Int) (b : ByteArray) (kb : List Int) (hka : ka.length = 32) (hkb : kb.length = 32) (w : World) (hT : Tabs kk bg w) (ht : t.size ≤ 140737488351232) (ha : a.size ≤ 140737488351232) (hb : b.size ≤ 140737488351232) :
    Calls Tryd.prog 19 #[.string t, .string a, .agg (u8s ka), .string b, .agg (u8s kb)] w fun e w' => e = .returned (.tuple #[.bool (mtB kk bg t a ka b kb), .int .i64 (mtErr t.data.toList a.size b.size)]) ∧ Kp [] w w' := by
  have HT := Lib.hid hT
  have hza : (u8s ka).size = 32 := by rw [u8s_size, hka]
  have hzb : (u8s kb).size = 32 := by rw [u8s_size, hkb]
  have HZA := Lib.hid hza
  have HZB := Lib.hid hzb
  have HJ := Lib.hid (fun W hW => joined_any kk bg a ka b kb hka hkb W hW ha hb)
  have HR := Lib.hid (fun W => read_any t W ht)
  have HE : Hid (mtErr t.data.toList a.size b.size = if rdErr t.data.toList = 0 then twoErr a.size b.size else rdErr t.data.toList) := Lib.hid rfl
  have HB : Hid (mtB kk bg t a ka b kb = (decide (mtErr t.data.toList a.size b.size = 0) && decide (rdS t.data.toList = jnS kk bg a ka b kb))) := Lib.hid rfl
  have hK : Hid ((((w.alloc (.cells (u8s ka) 23)).alloc (.cells (u8s kb) 23)).heap[w.heap.size]? = some (.cells (u8s ka) 23 (0, 0))) ∧ (((w.alloc (.cells (u8s ka) 23)).alloc (.cells (u8s kb) 23)).heap[w.heap.size + 1]? = some (.cells (u8s kb) 23 (0, 0))) ∧ Kp [] w ((w.alloc (.cells (u8s ka) 23)).alloc (.cells (u8s kb) 23))) :=
    Lib.hid ⟨heap_alloc2_old w _ _, heap_alloc2_new w _ _, ((Kp.refl [] w).alloc _).alloc _⟩
  generalize mtB kk bg t a ka b kb = R at *
  generalize mtErr t.data.toList a.size b.size = ME at *
  generalize jnS kk bg a ka b kb = J at *
  generalize twoErr a.size b.size = E at *
  generalize rdS t.data.toList = D at *
  generalize rdErr t.data.toList = RE at *
  clear hT hza hzb
  by_cases h1 : RE = 0
  · subst h1
    have HME : Hid (ME = E) := Lib.hid (HE.out.trans (if_pos rfl))
    by_cases h2 : E = 0
    · subst h2
      go_enter Tryd.func19, Tryd.ntmps19
      go_wp2_with (first
        | (refine wpList_load_row (by rfl) 23 (.tmp 7) (by rfl) w.heap.size (by rfl) 23 (u8s ka) (0, 0) _ HK1.out.2.1 Tryd.underlying23 rfl (by rw [HZA.out]; kernel_rfl) ?_)
        | (refine wpList_load_row (by rfl) 23 (.tmp 9) (by rfl) (w.heap.size + 1) (by rfl) 23 (u8s kb) (0, 0) _ HK1.out.2.2 Tryd.underlying23 rfl (by rw [HZB.out]; kernel_rfl) ?_)
        | (go_at_call 18; go_must (refine (HR.out _).mono ?_; rintro e w1 ⟨rfl, hk1⟩; have HK1 := Lib.hid (And.intro (hK.out.2.2.trans0 hk1) (And.intro (hk1.heap hK.out.1 (by simp)) (hk1.heap hK.out.2.1 (by simp)))); clear hk1))
        | (go_at_call 42; go_must (refine (HJ.out _ (HT.out.kp HK1.out.1)).mono ?_; rintro e w2 ⟨rfl, hk2⟩; have HK2 := Lib.hid (HK1.out.1.trans0 hk2); clear hk2)))
      go_ret2
      have hR : R = decide (D = J) := by rw [HB.out, HME.out]; simp
      exact ⟨by rw [hR, HME.out, ← str_beq]; rfl, HK2.out⟩
    · have hb2 : (E != 0) = true := by simpa using h2
      have hR : R = false := by rw [HB.out, HME.out]; simp [h2]
      have HRR := Lib.hid hR
      clear h2 hR
      go_enter Tryd.func19, Tryd.ntmps19
      go_wp2_with (first
        | (refine wpList_load_row (by rfl) 23 (.tmp 7) (by rfl) w.heap.size (by rfl) 23 (u8s ka) (0, 0) _ HK1.out.2.1 Tryd.underlying23 rfl (by rw [HZA.out]; kernel_rfl) ?_)
        | (refine wpList_load_row (by rfl) 23 (.tmp 9) (by rfl) (w.heap.size + 1) (by rfl) 23 (u8s kb) (0, 0) _ HK1.out.2.2 Tryd.underlying23 rfl (by rw [HZB.out]; kernel_rfl) ?_)
        | (go_at_call 18; go_must (refine (HR.out _).mono ?_; rintro e w1 ⟨rfl, hk1⟩; have HK1 := Lib.hid (And.intro (hK.out.2.2.trans0 hk1) (And.intro (hk1.heap hK.out.1 (by simp)) (hk1.heap hK.out.2.1 (by simp)))); clear hk1))
        | (go_at_call 42; go_must (refine (HJ.out _ (HT.out.kp HK1.out.1)).mono ?_; rintro e w2 ⟨rfl, hk2⟩; have HK2 := Lib.hid (HK1.out.1.trans0 hk2); clear hk2)))
      go_ret2
      exact ⟨by rw [HRR.out, HME.out]; rfl, HK2.out⟩
  · have hb2 : (RE != 0) = true := by simpa using h1
    have HME : Hid (ME = RE) := Lib.hid (HE.out.trans (if_neg h1))
    have hR : R = false := by rw [HB.out, HME.out]; simp [h1]
    have HRR := Lib.hid hR
    clear h1 hR
    go_enter Tryd.func19, Tryd.ntmps19
    go_wp2_with (first
        | (refine wpList_load_row (by rfl) 23 (.tmp 7) (by rfl) w.heap.size (by rfl) 23 (u8s ka) (0, 0) _ HK1.out.2.1 Tryd.underlying23 rfl (by rw [HZA.out]; kernel_rfl) ?_)
        | (refine wpList_load_row (by rfl) 23 (.tmp 9) (by rfl) (w.heap.size + 1) (by rfl) 23 (u8s kb) (0, 0) _ HK1.out.2.2 Tryd.underlying23 rfl (by rw [HZB.out]; kernel_rfl) ?_)
        | (go_at_call 18; go_must (refine (HR.out _).mono ?_; rintro e w1 ⟨rfl, hk1⟩; have HK1 := Lib.hid (And.intro (hK.out.2.2.trans0 hk1) (And.intro (hk1.heap hK.out.1 (by simp)) (hk1.heap hK.out.2.1 (by simp)))); clear hk1))
        | (go_at_call 42; go_must (refine (HJ.out _ (HT.out.kp HK1.out.1)).mono ?_; rintro e w2 ⟨rfl, hk2⟩; have HK2 := Lib.hid (HK1.out.1.trans0 hk2); clear hk2)))
    go_ret2
    exact ⟨by rw [HRR.out, HME.out]; rfl, HK1.out.1⟩
end Go.Proofs.YtkceaepbjdfccaaDoor
