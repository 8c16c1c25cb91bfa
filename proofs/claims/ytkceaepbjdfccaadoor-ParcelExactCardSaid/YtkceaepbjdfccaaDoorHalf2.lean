/-
safety.named, safety.Half.
-/
import Derived.Test.YtkceaepbjdfccaaDoorHalf1
import Derived.Deep.CutBlock
import Derived.Deep.DeepCutAuto
namespace Go.Proofs.YtkceaepbjdfccaaDoor
open Go.RowKit
theorem und_str : Tryd.prog.underlying 9 = some .string := by kernel_rfl
theorem und_bytes : Tryd.prog.underlying 27 = some (.slice 5) := by kernel_rfl
theorem und_u8 : Tryd.prog.underlying 5 = some (.int .u8) := by kernel_rfl
theorem el_byt : El Tryd.prog 27 5 (.int .u8 0) 1 := ⟨Tryd.underlying27, by kernel_rfl, rfl⟩
theorem str_empty (s : ByteArray) (h : s.size = 0) : s.toList.isEmpty = true := by
  rw [ByteArray.toList_eq, List.isEmpty_iff]
  exact List.eq_nil_of_length_eq_zero (by rw [Array.length_toList]; exact h)
theorem str_full (s : ByteArray) (h : ¬ s.size = 0) : s.toList.isEmpty = false := by
  cases hb : s.toList.isEmpty with
  | false => rfl
  | true =>
    rw [ByteArray.toList_eq, List.isEmpty_iff] at hb
    exact absurd (show s.size = 0 by have := congrArg List.length hb; rw [Array.length_toList] at this; exact this) h
/-- a name's error -/
def nameErr (n : Nat) : Int := if n = 0 then 6 else if 16 < n then 5 else 0
set_option maxRecDepth 100000 in
theorem named_any (s : ByteArray) (w : World) (hs : s.size ≤ 140737488351232) :
    Calls Tryd.prog 37 #[.string s] w fun e w' => e = .returned (.int .i64 (nameErr s.size)) ∧ w = w' := by
  by_cases h0 : s.size = 0
  · have h1 := str_empty s h0
    have e : nameErr s.size = 6 := by unfold nameErr; rw [if_pos h0]
    have E := Lib.hid e
    clear e h0
    go_enter Tryd.func37, Tryd.ntmps37
    go_wp2_with fail
    go_ret
    exact ⟨by rw [E.out]; rfl, rfl⟩
  · have h1 := str_full s h0
    by_cases h2 : 16 < s.size
    · have e : nameErr s.size = 5 := by unfold nameErr; rw [if_neg h0, if_pos h2]
      have E := Lib.hid e
      clear e h0
      go_enter Tryd.func37, Tryd.ntmps37
      go_wp2_with fail
      go_ret
      exact ⟨by rw [E.out]; rfl, rfl⟩
    · have e : nameErr s.size = 0 := by unfold nameErr; rw [if_neg h0, if_neg h2]
      have E := Lib.hid e
      clear e h0
      go_enter Tryd.func37, Tryd.ntmps37
      go_wp2_with fail
      go_ret
      exact ⟨by rw [E.out]; rfl, rfl⟩
theorem slice32 (T : TypeId) (hT : T = 23 ∨ T = 25) (W : World) (g : Nat) :
    (Instr.sliceAt T (.pointer (some ⟨g, 0, none⟩)) none none none).run Tryd.prog W = .ok (.slice (some ⟨g, 0, none⟩) 32 32) W := by
  rcases hT with rfl | rfl
  · have ht : Tryd.prog.underlying 23 = some (.array (Tryd.prog.arrayLen 23) (Tryd.prog.elem 23)) := by kernel_rfl
    have hl : Tryd.prog.arrayLen 23 = 32 := by kernel_rfl
    have hs : (sizeOf (Tryd.prog.elem 23)).run Tryd.prog W = .ok 1 W := by kernel_rfl
    rw [run_sliceAt_array_all W _ _ ht, hs, hl]
    rfl
  · have ht : Tryd.prog.underlying 25 = some (.array (Tryd.prog.arrayLen 25) (Tryd.prog.elem 25)) := by kernel_rfl
    have hl : Tryd.prog.arrayLen 25 = 32 := by kernel_rfl
    have hs : (sizeOf (Tryd.prog.elem 25)).run Tryd.prog W = .ok 1 W := by kernel_rfl
    rw [run_sliceAt_array_all W _ _ ht, hs, hl]
    rfl
theorem slice5 (W : World) (g k : Nat) (hk : k < 6) :
    (Instr.sliceAt 25 (.pointer (some ⟨g, 0, none⟩)) (some (.int .i64 (5 * (k : Int)))) (some (.int .i64 (5 * (k : Int) + 5))) none).run Tryd.prog W = .ok (.slice (some ⟨g, 5 * k, none⟩) 5 (32 - 5 * k)) W := by
  have ht : Tryd.prog.underlying 25 = some (.array (Tryd.prog.arrayLen 25) (Tryd.prog.elem 25)) := by kernel_rfl
  have hl : Tryd.prog.arrayLen 25 = 32 := by kernel_rfl
  have hs : (sizeOf (Tryd.prog.elem 25)).run Tryd.prog W = .ok 1 W := by kernel_rfl
  rw [run_sliceAt_array_lh W _ _ ht .i64 .i64 (5 * (k : Int)) (5 * (k : Int) + 5) (by omega) (by omega) (by rw [hl]; omega), hs, hl]
  have e1 : (5 * (k : Int)).toNat = 5 * k := by omega
  have e2 : (5 * (k : Int) + 5).toNat = 5 * k + 5 := by omega
  simp only [Result.andThen_ok, slicedAt, e1, e2, Nat.mul_one]
  rw [if_neg (by omega), Addr.add_mid, Nat.zero_add, show 5 * k + 5 - 5 * k = 5 by omega]
/-- an array of 32 bytes in block b -/
theorem rd_arr {w : World} {b : Nat} {l : List Int} {T : TypeId} (hb : w.heap[b]? = some (.cells (u8s l) T (0, 0))) (hl : l.length = 32) : Rd w (.slice (some ⟨b, 0, none⟩) 32 32) (iv l) := by
  refine ⟨some ⟨b, 0, none⟩, 32, by rw [iv_length, hl], by rw [iv_length, hl]; exact Nat.le_refl _, (fun h => by cases h), fun a ha i u hu => ?_⟩
  cases ha
  rw [Addr.add_mid, Nat.zero_add, cell_of_row w b i _ _ _ hb]
  simpa [u8s, iv] using hu
theorem rdi_lit2 (w : World) (T : TypeId) (a b : Value) (la lb : List Int) (ha : Rd w a (iv la)) (hb : Rd w b (iv lb)) :
    Rdi (w.alloc (.cells #[a, b] T)) (.slice (some ⟨w.heap.size, 0, none⟩) 2 2) [la, lb] := by
  refine ⟨[a, b], rd_lit2 w T a b, rfl, ?_⟩
  rintro (_ | _ | i) x l hx hl
  · cases hx; cases hl; exact ha.kp0 ((Kp.refl [] w).alloc _)
  · cases hx; cases hl; exact hb.kp0 ((Kp.refl [] w).alloc _)
  · cases hx
theorem rdi_lit3 (w : World) (T : TypeId) (a b c : Value) (la lb lc : List Int) (ha : Rd w a (iv la)) (hb : Rd w b (iv lb)) (hc : Rd w c (iv lc)) :
    Rdi (w.alloc (.cells #[a, b, c] T)) (.slice (some ⟨w.heap.size, 0, none⟩) 3 3) [la, lb, lc] := by
  refine ⟨[a, b, c], rd_lit3 w T a b c, rfl, ?_⟩
  rintro (_ | _ | _ | i) x l hx hl
  · cases hx; cases hl; exact ha.kp0 ((Kp.refl [] w).alloc _)
  · cases hx; cases hl; exact hb.kp0 ((Kp.refl [] w).alloc _)
  · cases hx; cases hl; exact hc.kp0 ((Kp.refl [] w).alloc _)
  · cases hx
/-- what lies where in Half: the key in K, the digest in D -/
structure HM (w wr : World) (K D : Nat) (key d : List Int) : Prop where
  k : Kp [] w wr
  hK : w.heap.size ≤ K
  hD : K < D
  key : wr.heap[K]? = some (.cells (u8s key) 23 (0, 0))
  dig : wr.heap[D]? = some (.cells (u8s d) 25 (0, 0))
theorem HM.drew {w wr : World} {K D : Nat} {key d : List Int} (h : HM w wr K D key d) : HM w wr.drew K D key d := ⟨h.k.drew, h.hK, h.hD, h.key, h.dig⟩
theorem HM.kp {w wr w' : World} {K D : Nat} {key d : List Int} (h : HM w wr K D key d) (k : Kp [] wr w') : HM w w' K D key d := ⟨h.k.trans0 k, h.hK, h.hD, k.heap h.key (by simp), k.heap h.dig (by simp)⟩
theorem HM.set {w wr : World} {K D : Nat} {key d : List Int} (h : HM w wr K D key d) (d' : List Int) : HM w (wr.setRow D (u8s d')) K D key d' := by
  have hK := h.hK
  have hD := h.hD
  exact ⟨h.k.trans (kp_setRow wr D _) (fun m hm => by rw [List.mem_singleton] at hm; subst hm; exact .inr (by omega)), hK, hD, (kp_setRow wr D (u8s d')).heap h.key (by simp; omega), setRow_heap wr D _ _ _ _ h.dig⟩
theorem HM.start {w w1 : World} {key : List Int} {old : Array Value} {K : Nat} (k : Kp [] w w1) (hk : w1.heap[K]? = some (.cells (u8s key) 23 (0, 0))) (T : TypeId) (d : List Int) (hK : w.heap.size ≤ K) (hT : T = 25) :
    HM w ((w1.alloc (.cells old T)).setRow w1.heap.size (u8s d)) K w1.heap.size key d := by
  subst hT
  have hlt : K < w1.heap.size := (Array.getElem?_eq_some_iff.1 hk).1
  have k1 : Kp [] w1 (w1.alloc (.cells old 25)) := (Kp.refl _ _).alloc _
  have k2 := kp_setRow (w1.alloc (.cells old 25)) w1.heap.size (u8s d)
  exact ⟨(k.trans0 k1).trans k2 (fun m hm => by rw [List.mem_singleton] at hm; subst hm; exact .inr k.size), hK, hlt, k2.heap (k1.heap hk (by simp)) (by simp; omega), setRow_heap _ w1.heap.size _ _ _ _ (heap_alloc_new w1 _)⟩
theorem Own.off {w : World} {B : Nat} {e T : TypeId} {v : Value} {xs : List Value} (h : Own w B e v xs) {p : Nat} {cs : Array Value} {fz : Nat × Nat} (hp : w.heap[p]? = some (.cells cs T fz)) (hT : T ≠ e) : p ∉ v.ownBlock.toList := by
  intro hm
  rw [Option.mem_toList] at hm
  rcases h.2 with ⟨rfl, _⟩ | ⟨g, cap, cur, rfl, _, hg, _⟩
  · cases hm
  · cases hm
    rw [hp] at hg
    simp only [Option.some.injEq, Obj.cells.injEq] at hg
    exact hT hg.2.1
/-- the same, and the digits so far -/
structure HO (w wr : World) (K D : Nat) (key d : List Int) (v : Value) (l : List UInt8) : Prop where
  m : HM w wr K D key d
  o : Own wr w.heap.size 5 v (bv l)
theorem HO.app {w wr w' : World} {K D : Nat} {key d : List Int} {v v' : Value} {l l' : List UInt8} {ob : Obj} (h : HO w wr K D key d v l) (ho : Own w' w.heap.size 5 v' (bv l')) (hg : (wr.alloc ob).grownBy w' v.ownBlock) :
    HO w w' K D key d v' l' ∧ ∀ (T : Nat) (cs : Array Value) (e : TypeId) (fz : Nat × Nat), wr.heap[T]? = some (.cells cs e fz) → e ≠ 5 → w'.heap[T]? = some (.cells cs e fz) := by
  have k0 : Kp [] wr (wr.alloc ob) := (Kp.refl _ _).alloc _
  have k1 : Kp v.ownBlock.toList (wr.alloc ob) w' := Kp.of_grown hg (fun k hk => .inl (by rw [hk]; simp))
  have hh : ∀ (T : Nat) (cs : Array Value) (e : TypeId) (fz : Nat × Nat), wr.heap[T]? = some (.cells cs e fz) → e ≠ 5 → w'.heap[T]? = some (.cells cs e fz) :=
    fun T cs e fz hT he => k1.heap (k0.heap hT (by simp)) (h.o.off hT he)
  refine ⟨⟨⟨(h.m.k.trans0 k0).trans k1 (fun m hm => ?_), h.m.hK, h.m.hD, hh _ _ _ _ h.m.key (by decide), hh _ _ _ _ h.m.dig (by decide)⟩, ho⟩, hh⟩
  rw [Option.mem_toList] at hm
  exact .inr (h.o.lt hm).1
/-- the three parts of the first hash -/
theorem half_args (w : World) (s : ByteArray) (key : List Int) (hkey : key.length = 32) :
    Rdi ((Lib.bytesWorld ((w.alloc (.cells (u8s key) 23)).alloc (.cells #[.int .u8 1, .int .u8 s.size] 5)) 5 s).alloc
        (.cells #[.slice (some ⟨w.heap.size + 1, 0, none⟩) 2 2, .slice (some ⟨w.heap.size + 1 + 1, 0, none⟩) s.size (grownCap ((w.alloc (.cells (u8s key) 23)).alloc (.cells #[.int .u8 1, .int .u8 s.size] 5)) s.size 0 5), .slice (some ⟨w.heap.size, 0, none⟩) 32 32] 27))
      (.slice (some ⟨(Lib.bytesWorld ((w.alloc (.cells (u8s key) 23)).alloc (.cells #[.int .u8 1, .int .u8 s.size] 5)) 5 s).heap.size, 0, none⟩) 3 3) [[1, (s.size : Int)], nums s, key] ∧
    Kp [] w ((Lib.bytesWorld ((w.alloc (.cells (u8s key) 23)).alloc (.cells #[.int .u8 1, .int .u8 s.size] 5)) 5 s).alloc
        (.cells #[.slice (some ⟨w.heap.size + 1, 0, none⟩) 2 2, .slice (some ⟨w.heap.size + 1 + 1, 0, none⟩) s.size (grownCap ((w.alloc (.cells (u8s key) 23)).alloc (.cells #[.int .u8 1, .int .u8 s.size] 5)) s.size 0 5), .slice (some ⟨w.heap.size, 0, none⟩) 32 32] 27)) ∧
    ((Lib.bytesWorld ((w.alloc (.cells (u8s key) 23)).alloc (.cells #[.int .u8 1, .int .u8 s.size] 5)) 5 s).alloc
        (.cells #[.slice (some ⟨w.heap.size + 1, 0, none⟩) 2 2, .slice (some ⟨w.heap.size + 1 + 1, 0, none⟩) s.size (grownCap ((w.alloc (.cells (u8s key) 23)).alloc (.cells #[.int .u8 1, .int .u8 s.size] 5)) s.size 0 5), .slice (some ⟨w.heap.size, 0, none⟩) 32 32] 27)).heap[w.heap.size]? = some (.cells (u8s key) 23 (0, 0)) := by
  obtain ⟨W0, hW0⟩ : ∃ W0, W0 = w.alloc (.cells (u8s key) 23) := ⟨_, rfl⟩
  obtain ⟨W1, hW1⟩ : ∃ W1, W1 = W0.alloc (.cells #[.int .u8 1, .int .u8 s.size] 5) := ⟨_, rfl⟩
  have k0 : Kp [] w W0 := by rw [hW0]; exact (Kp.refl _ _).alloc _
  have k1 : Kp [] W0 W1 := by rw [hW1]; exact (Kp.refl _ _).alloc _
  have s0 : W0.heap.size = w.heap.size + 1 := by rw [hW0]; simp
  have s1 : W1.heap.size = w.heap.size + 1 + 1 := by rw [hW1]; simp [s0]
  have hk0 : W0.heap[w.heap.size]? = some (.cells (u8s key) 23 (0, 0)) := by rw [hW0]; exact heap_alloc_new w _
  have k2 : Kp [] W1 (Lib.bytesWorld W1 5 s) := kp_bytesWorld _ _ _
  have r1 : Rd W1 (.slice (some ⟨w.heap.size + 1, 0, none⟩) 2 2) (iv [1, (s.size : Int)]) := by
    have := rd_lit2 W0 5 (.int .u8 1) (.int .u8 s.size)
    rw [s0, ← hW1] at this
    exact this
  have r2 := rd_bytesWorld W1 5 s
  rw [s1, ← iv_bv] at r2
  have hk2 : (Lib.bytesWorld W1 5 s).heap[w.heap.size]? = some (.cells (u8s key) 23 (0, 0)) := k2.heap (k1.heap hk0 (by simp)) (by simp)
  rw [← hW0, ← hW1]
  refine ⟨rdi_lit3 _ _ _ _ _ _ _ _ (r1.kp0 k2) r2 (rd_arr hk2 hkey), ((k0.trans0 k1).trans0 k2).alloc _, ?_⟩
  exact ((Kp.refl [] _).alloc _).heap hk2 (by simp)
theorem nums_small (s : ByteArray) (key : List Int) (hkey : key.length = 32) (h : ¬ 16 < s.size) : [[1, (s.size : Int)], nums s, key].flatten.length ≤ 562949953421312 := by
  simp [nums_len, hkey]; omega
set_option maxRecDepth 100000 in
set_option maxHeartbeats 1000000 in
theorem half_ok (kk bg : List Int) (s : ByteArray) (key : List Int) (hkey : key.length = 32) (w : World) (hT : Tabs kk bg w) (hs0 : ¬ s.size = 0) (hs1 : ¬ 16 < s.size) :
    Calls Tryd.prog 14 #[.string s, .agg (u8s key)] w fun e w' => e = .returned (.tuple #[.string (strOf (half kk bg (nums s) key)), .int .i64 0]) ∧ Kp [] w w' := by
  have he : nameErr s.size = 0 := by unfold nameErr; rw [if_neg hs0, if_neg hs1]
  have hse := str_full s hs0
  have HSE := Lib.hid hse
  have HT := Lib.hid hT
  have HE := Lib.hid he
  have HK := Lib.hid hkey
  have hcb := fun (w : World) => Lib.run_convert_string_bytes (P := Tryd.prog) w 9 27 5 s und_str und_bytes und_u8
  have hsl := fun (W : World) (g : Nat) => slice32 23 (.inl rfl) W g
  clear hT he hkey hse
  go_enter Tryd.func14, Tryd.ntmps14
  have HA := Lib.hid (half_args w s key HK.out)
  have HF := Lib.hid (nums_small s key HK.out hs1)
  obtain ⟨d0, hd0⟩ : ∃ d0, d0 = sha kk bg [[1, (s.size : Int)], nums s, key].flatten := ⟨_, rfl⟩
  have HZ : Hid ((u8s d0).size = 32) := Lib.hid (by rw [hd0, u8s_size, sha_len])
  have HD : Hid (d0 = chain kk bg (nums s) key 0) := Lib.hid (by rw [hd0, chain, nums_len]; simp)
  have HSU : Hid (∀ v w, Tabs kk bg w → Rdi w v [[1, (s.size : Int)], nums s, key] → Calls Tryd.prog 13 #[v] w fun e w' => e = .returned (.agg (u8s d0)) ∧ Kp [] w w') := Lib.hid (fun v w hT hv => by rw [hd0]; exact shasum_any kk bg v _ w hT hv HF.out (by simp))
  clear hd0
  go_wp2_with (first
    | (go_at_call 37; go_must (refine (named_any s _ (by omega)).mono ?_; rw [HE.out]; rintro e w' ⟨rfl, rfl⟩))
    | (go_at_call 13; go_must (refine (HSU.out _ _ (HT.out.kp HA.out.2.1) HA.out.1).mono ?_; rintro e w1 ⟨rfl, hk1⟩; have HK1 : Hid (Kp [] w w1 ∧ w1.heap[w.heap.size]? = some (.cells (u8s key) 23 (0, 0))) := Lib.hid ⟨HA.out.2.1.trans0 hk1, hk1.heap HA.out.2.2 (by simp)⟩; clear hk1))
    | (refine wpList_store_row (by rfl) 25 (.tmp 7) (.tmp 28) (by rfl) w1.heap.size (u8s d0) (by rfl) (by rfl) 25 _ (heap_alloc_new w1 _) (by rw [HZ.out]; kernel_rfl) (by rw [HZ.out]; rfl) (one_u8s _) ?_))
  have HM0 := Lib.hid (HM.start (old := u8s (List.replicate 32 0)) HK1.out.1 HK1.out.2 25 d0 (Nat.le_refl _) rfl)
  have HS2 : Hid (∀ t v w, Tabs kk bg w → Rdi w v [chain kk bg (nums s) key t, key] → Calls Tryd.prog 13 #[v] w fun e w' => e = .returned (.agg (u8s (chain kk bg (nums s) key (t + 1)))) ∧ Kp [] w w') := Lib.hid (fun t v w hT hv => by
    have h := shasum_any kk bg v _ w hT hv (by simp [chain_len, HK.out]) (by simp)
    rw [show [chain kk bg (nums s) key t, key].flatten = chain kk bg (nums s) key t ++ key by simp] at h
    exact h)
  have HCL : Hid (∀ t, (u8s (chain kk bg (nums s) key t)).size = 32 ∧ (chain kk bg (nums s) key t).length = 32) := Lib.hid (fun t => ⟨by rw [u8s_size, chain_len], chain_len _ _ _ _ _⟩)
  rw [HD.out] at HM0
  clear HSU HF HA HSE HE HK1 hcb hsl
  go_loopw [29] (fun i wr => ∃ t : Nat, t ≤ 15 ∧ i = .int .i64 t ∧ Hid (HM w wr w.heap.size w1.heap.size key (chain kk bg (nums s) key t))) (fun i _ => 15 - (intOf i).toNat)
  case atStart => exact ⟨0, Nat.zero_le _, rfl, by rw [HD.out]; exact HM0⟩
  case round =>
    clear HM0
    obtain ⟨t, ht, rfl, HR⟩ := hrel
    by_cases hlt : t < 15
    · have hs1 := fun (W : World) => slice32 25 (.inr rfl) W w1.heap.size
      have hs2 := fun (W : World) => slice32 23 (.inl rfl) W w.heap.size
      generalize w1.heap.size = D at *
      go_wp2_with fail
      go_still_tail 2, (by kernel_rfl)
      have HRD := Lib.hid HR.out.drew
      change wpList _ _ _ _ _ wr.drew
      clear HR
      generalize wr.drew = w2 at *
      go_wp2_with (first
        | (go_at_call 13; go_must (refine (HS2.out t _ _ (HT.out.kp (HRD.out.k.alloc _)) (rdi_lit2 _ _ _ _ _ _ (rd_arr HRD.out.dig (HCL.out t).2) (rd_arr HRD.out.key HK.out))).mono ?_; rintro e w3 ⟨rfl, hk3⟩; have HR3 := Lib.hid (HRD.out.kp (((Kp.refl [] w2).alloc _).trans0 hk3)); clear hk3))
        | (refine wpList_store_row (by rfl) 25 (.tmp 7) (.tmp 34) (by rfl) D (u8s (chain kk bg (nums s) key (t + 1))) (by rfl) (by rfl) 25 _ HR3.out.dig (by rw [(HCL.out _).1]; kernel_rfl) (by rw [(HCL.out _).1, (HCL.out _).1]) (one_u8s _) ?_))
      go_roundw
      case rel => exact ⟨t + 1, by omega, by go_num, Lib.hid (HR3.out.set _)⟩
      case measure => simp [intOf]; omega
    · have ht15 : t = 15 := by omega
      subst ht15
      rw [show (((15 : Nat)) : Int) = 15 from rfl]
      have HB : Hid (Byts (chain kk bg (nums s) key 15)) := Lib.hid (chain_byts _ _ _ _ _)
      have HLN := Lib.hid (HCL.out 15).2
      have HHF : Hid (half kk bg (nums s) key = halfL (chain kk bg (nums s) key 15) 6) := Lib.hid rfl
      clear HS2 HCL HZ HD
      generalize chain kk bg (nums s) key 15 = d at *
      obtain ⟨K, hKK⟩ : ∃ K, K = w.heap.size := ⟨_, rfl⟩
      rw [← hKK] at HR
      generalize w1.heap.size = D at *
      have HO0 : Hid (HO w wr K D key d (.slice none 0 0) (halfL d 0)) := Lib.hid ⟨HR.out, Own.nil _ _ _⟩
      clear HR
      go_wp2_with fail
      go_loopw [8, 36] (fun v i wx => ∃ q : Nat, q ≤ 6 ∧ i = .int .i64 q ∧ Hid (HO w wx K D key d v (halfL d q))) (fun _ i _ => 6 - (intOf i).toNat)
      case atStart => exact ⟨0, Nat.zero_le _, rfl, HO0⟩
      case round =>
        clear HO0
        obtain ⟨q, hq, rfl, HQ⟩ := hrel
        by_cases hlq : q < 6
        · have hs5 := fun W => slice5 W D q hlq
          go_wp2_with fail
          clear hs5
          go_loop [10, 46] (fun n i => ∃ j : Nat, j ≤ 5 ∧ i = .int .i64 j ∧ n = .int .i64 (num5 d q j)) (fun _ i => 5 - (intOf i).toNat)
          case atStart => exact ⟨0, by decide, rfl, rfl⟩
          case round =>
            obtain ⟨j, hj, rfl, rfl⟩ := hrel
            by_cases hlj : j < 5
            · have hN := num5_small HB.out q j hlj
              have hb := HB.out (5 * q + j)
              have hcell : wr.cell? ⟨D, 5 * q + j, none⟩ = some (.int .u8 (d.getD (5 * q + j) 0)) := by
                rw [cell_of_row _ _ _ _ _ _ HQ.out.m.dig, u8s_getD _ _ (by rw [HLN.out]; omega)]
              have HS : Hid (num5 d q (j + 1) = num5 d q j * 256 + d.getD (5 * q + j) 0) := Lib.hid rfl
              generalize num5 d q j = N at *
              generalize d.getD (5 * q + j) 0 = b at *
              have h0 : 0 ≤ N := hN.1
              have h1 : N < 4294967296 := hN.2
              have hor := i64_or8 N b h0 h1 hb.1 hb.2
              have hb0 := hb.1
              have hb1 := hb.2
              have j1 : (j : Int) < 5 := by omega
              clear hN hb
              go_wp2_with fail
              go_round
              case rel => exact ⟨j + 1, by omega, by go_num, by rw [HS.out]⟩
              case measure => simp [intOf]; omega
            · have hj5 : j = 5 := by omega
              subst hj5
              have HNN := Lib.hid (num5_five HB.out q)
              have HHL : Hid (halfL d (q + 1) = halfL d q ++ five (num5 d q 5)) := Lib.hid rfl
              have HLE : Hid ((halfL d q).length ≤ 30) := Lib.hid (by rw [halfL_len]; omega)
              generalize num5 d q 5 = N at *
              have n0 : 0 ≤ N := HNN.out.1
              have n1 : N < 1099511627776 := HNN.out.2
              generalize halfL d q = L at *
              go_wp2_with fail
              have HQ4 : Hid (HO w (wr.alloc (.cells #[.int .i64 10000, .int .i64 1000, .int .i64 100, .int .i64 10, .int .i64 1] 3)) K D key d u8 (L ++ (five N).take 0) ∧ (wr.alloc (.cells #[.int .i64 10000, .int .i64 1000, .int .i64 100, .int .i64 10, .int .i64 1] 3)).heap[wr.heap.size]? = some (.cells #[.int .i64 10000, .int .i64 1000, .int .i64 100, .int .i64 10, .int .i64 1] 3 (0, 0))) := Lib.hid ⟨⟨HQ.out.m.kp ((Kp.refl [] wr).alloc _), by rw [List.take_zero, List.append_nil]; exact HQ.out.o.kp0 ((Kp.refl [] wr).alloc _)⟩, heap_alloc_new wr _⟩
              generalize wr.heap.size = T at *
              clear HQ
              go_loopw [8, 58] (fun v i wx => ∃ j : Nat, j ≤ 5 ∧ i = .int .i64 j ∧ Hid (HO w wx K D key d v (L ++ (five N).take j) ∧ wx.heap[T]? = some (.cells #[.int .i64 10000, .int .i64 1000, .int .i64 100, .int .i64 10, .int .i64 1] 3 (0, 0)))) (fun _ i _ => 5 - (intOf i).toNat)
              case atStart => exact ⟨0, by decide, rfl, HQ4⟩
              case round =>
                clear HQ4
                obtain ⟨j, hj, rfl, HR4⟩ := hrel
                by_cases hlj : j < 5
                · have hj5 : j = 0 ∨ j = 1 ∨ j = 2 ∨ j = 3 ∨ j = 4 := by omega
                  rcases hj5 with rfl | rfl | rfl | rfl | rfl
                  · have c0 : wr.cell? ⟨T, 0, none⟩ = some (.int .i64 10000) := by rw [cell_of_row _ _ _ _ _ _ HR4.out.2]; rfl
                    have HV : Hid (bv (L ++ (five N).take 0) ++ [.int .u8 (48 + N / 10000 % 10)] = bv (L ++ (five N).take 1)) := Lib.hid (by
                      rw [show (five N).take 1 = (five N).take 0 ++ [digit N 10000] from rfl, ← List.append_assoc, bv_append (L ++ (five N).take 0)]
                      show _ = _ ++ [bval (digit N 10000)]
                      rw [bval_digit])
                    go_wp2_with (first
                      | (at_builtin; go_must (refine wpl_append el_byt rfl (.tmp 62) (.tmp 69) (by rfl) (by rfl) (by rfl) (HR4.out.1.o.kp0 ((Kp.refl [] wr).alloc _)) (rd_lit1 wr 5 _) (by simp [Value.oneCell']) (by have := HLE.out; simp [bv_length, five]; omega) (by have := HLE.out; simp [bv_length, five]; omega) (by have := HR4.out.1.m.k.size; simp; omega) ?_; intro v2 w5 ho5 hg5; rw [HV.out] at ho5; have H5 := Lib.hid (HR4.out.1.app (l' := L ++ (five N).take 1) ho5 hg5); clear ho5 hg5))
                      | fail)
                    go_roundw
                    case rel => exact ⟨1, by decide, rfl, Lib.hid ⟨H5.out.1, H5.out.2 _ _ _ _ HR4.out.2 (by decide)⟩⟩
                    case measure => simp [intOf]
                  · have c0 : wr.cell? ⟨T, 1, none⟩ = some (.int .i64 1000) := by rw [cell_of_row _ _ _ _ _ _ HR4.out.2]; rfl
                    have HV : Hid (bv (L ++ (five N).take 1) ++ [.int .u8 (48 + N / 1000 % 10)] = bv (L ++ (five N).take 2)) := Lib.hid (by
                      rw [show (five N).take 2 = (five N).take 1 ++ [digit N 1000] from rfl, ← List.append_assoc, bv_append (L ++ (five N).take 1)]
                      show _ = _ ++ [bval (digit N 1000)]
                      rw [bval_digit])
                    go_wp2_with (first
                      | (at_builtin; go_must (refine wpl_append el_byt rfl (.tmp 62) (.tmp 69) (by rfl) (by rfl) (by rfl) (HR4.out.1.o.kp0 ((Kp.refl [] wr).alloc _)) (rd_lit1 wr 5 _) (by simp [Value.oneCell']) (by have := HLE.out; simp [bv_length, five]; omega) (by have := HLE.out; simp [bv_length, five]; omega) (by have := HR4.out.1.m.k.size; simp; omega) ?_; intro v2 w5 ho5 hg5; rw [HV.out] at ho5; have H5 := Lib.hid (HR4.out.1.app (l' := L ++ (five N).take 2) ho5 hg5); clear ho5 hg5))
                      | fail)
                    go_roundw
                    case rel => exact ⟨2, by decide, rfl, Lib.hid ⟨H5.out.1, H5.out.2 _ _ _ _ HR4.out.2 (by decide)⟩⟩
                    case measure => simp [intOf]
                  · have c0 : wr.cell? ⟨T, 2, none⟩ = some (.int .i64 100) := by rw [cell_of_row _ _ _ _ _ _ HR4.out.2]; rfl
                    have HV : Hid (bv (L ++ (five N).take 2) ++ [.int .u8 (48 + N / 100 % 10)] = bv (L ++ (five N).take 3)) := Lib.hid (by
                      rw [show (five N).take 3 = (five N).take 2 ++ [digit N 100] from rfl, ← List.append_assoc, bv_append (L ++ (five N).take 2)]
                      show _ = _ ++ [bval (digit N 100)]
                      rw [bval_digit])
                    go_wp2_with (first
                      | (at_builtin; go_must (refine wpl_append el_byt rfl (.tmp 62) (.tmp 69) (by rfl) (by rfl) (by rfl) (HR4.out.1.o.kp0 ((Kp.refl [] wr).alloc _)) (rd_lit1 wr 5 _) (by simp [Value.oneCell']) (by have := HLE.out; simp [bv_length, five]; omega) (by have := HLE.out; simp [bv_length, five]; omega) (by have := HR4.out.1.m.k.size; simp; omega) ?_; intro v2 w5 ho5 hg5; rw [HV.out] at ho5; have H5 := Lib.hid (HR4.out.1.app (l' := L ++ (five N).take 3) ho5 hg5); clear ho5 hg5))
                      | fail)
                    go_roundw
                    case rel => exact ⟨3, by decide, rfl, Lib.hid ⟨H5.out.1, H5.out.2 _ _ _ _ HR4.out.2 (by decide)⟩⟩
                    case measure => simp [intOf]
                  · have c0 : wr.cell? ⟨T, 3, none⟩ = some (.int .i64 10) := by rw [cell_of_row _ _ _ _ _ _ HR4.out.2]; rfl
                    have HV : Hid (bv (L ++ (five N).take 3) ++ [.int .u8 (48 + N / 10 % 10)] = bv (L ++ (five N).take 4)) := Lib.hid (by
                      rw [show (five N).take 4 = (five N).take 3 ++ [digit N 10] from rfl, ← List.append_assoc, bv_append (L ++ (five N).take 3)]
                      show _ = _ ++ [bval (digit N 10)]
                      rw [bval_digit])
                    go_wp2_with (first
                      | (at_builtin; go_must (refine wpl_append el_byt rfl (.tmp 62) (.tmp 69) (by rfl) (by rfl) (by rfl) (HR4.out.1.o.kp0 ((Kp.refl [] wr).alloc _)) (rd_lit1 wr 5 _) (by simp [Value.oneCell']) (by have := HLE.out; simp [bv_length, five]; omega) (by have := HLE.out; simp [bv_length, five]; omega) (by have := HR4.out.1.m.k.size; simp; omega) ?_; intro v2 w5 ho5 hg5; rw [HV.out] at ho5; have H5 := Lib.hid (HR4.out.1.app (l' := L ++ (five N).take 4) ho5 hg5); clear ho5 hg5))
                      | fail)
                    go_roundw
                    case rel => exact ⟨4, by decide, rfl, Lib.hid ⟨H5.out.1, H5.out.2 _ _ _ _ HR4.out.2 (by decide)⟩⟩
                    case measure => simp [intOf]
                  · have c0 : wr.cell? ⟨T, 4, none⟩ = some (.int .i64 1) := by rw [cell_of_row _ _ _ _ _ _ HR4.out.2]; rfl
                    have HV : Hid (bv (L ++ (five N).take 4) ++ [.int .u8 (48 + N % 10)] = bv (L ++ (five N).take 5)) := Lib.hid (by
                      rw [show (five N).take 5 = (five N).take 4 ++ [digit N 1] from rfl, ← List.append_assoc, bv_append (L ++ (five N).take 4)]
                      show _ = _ ++ [bval (digit N 1)]
                      rw [bval_digit, Int.ediv_one])
                    go_wp2_with (first
                      | (at_builtin; go_must (refine wpl_append el_byt rfl (.tmp 62) (.tmp 69) (by rfl) (by rfl) (by rfl) (HR4.out.1.o.kp0 ((Kp.refl [] wr).alloc _)) (rd_lit1 wr 5 _) (by simp [Value.oneCell']) (by have := HLE.out; simp [bv_length, five]; omega) (by have := HLE.out; simp [bv_length, five]; omega) (by have := HR4.out.1.m.k.size; simp; omega) ?_; intro v2 w5 ho5 hg5; rw [HV.out] at ho5; have H5 := Lib.hid (HR4.out.1.app (l' := L ++ (five N).take 5) ho5 hg5); clear ho5 hg5))
                      | fail)
                    go_roundw
                    case rel => exact ⟨5, by decide, rfl, Lib.hid ⟨H5.out.1, H5.out.2 _ _ _ _ HR4.out.2 (by decide)⟩⟩
                    case measure => simp [intOf]
                · have hj5 : j = 5 := by omega
                  subst hj5
                  rw [List.take_of_length_le (by rw [five_len]; omega), ← HHL.out] at HR4
                  go_wp2_with fail
                  go_roundw
                  case rel => exact ⟨q + 1, by omega, by go_num, Lib.hid HR4.out.1⟩
                  case measure => simp [intOf]; omega
        · have hq6 : q = 6 := by omega
          subst hq6
          have hstr := fun W (h : Rd W u8 (bv (halfL d 6))) => run_str (P := Tryd.prog) und_bytes und_u8 und_str h
          have hs := hstr wr HQ.out.o.rd
          clear hstr
          go_wp2_with fail
          go_ret2
          exact ⟨by rw [HHF.out]; rfl, HQ.out.m.k⟩
set_option maxRecDepth 100000 in
set_option maxHeartbeats 1000000 in
theorem half_err (s : ByteArray) (key : List Int) (w : World) (hs : s.size ≤ 140737488351232) (h : nameErr s.size ≠ 0) :
    Calls Tryd.prog 14 #[.string s, .agg (u8s key)] w fun e w' => e = .returned (.tuple #[.string ⟨#[]⟩, .int .i64 (nameErr s.size)]) ∧ Kp [] w w' := by
  have hb : (nameErr s.size != 0) = true := by simpa using h
  have HN := Lib.hid (fun W => named_any s W hs)
  generalize nameErr s.size = E at *
  clear h
  go_enter Tryd.func14, Tryd.ntmps14
  go_wp2_with (go_at_call 37; go_must (refine (HN.out _).mono ?_; rintro e w' ⟨rfl, rfl⟩))
  go_ret2
  exact ⟨rfl, (Kp.refl [] w).alloc _⟩
end Go.Proofs.YtkceaepbjdfccaaDoor
