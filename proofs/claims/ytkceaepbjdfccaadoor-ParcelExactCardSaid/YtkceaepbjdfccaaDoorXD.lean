/-
The document: Split and what Add needs.
-/
import Derived.Test.YtkceaepbjdfccaaDoorXA
import Derived.Test.YtkceaepbjdfccaaDoorXC
import Derived.Test.YtkceaepbjdfccaaDoorXB
/-
letheref26.Split.
-/
namespace Go.Proofs.YtkceaepbjdfccaaDoor
open Go.RowKit
set_option maxRecDepth 100000 in
theorem rsplit_long (id : Int) (v : Value) (l : List UInt8) (w : World) (hv : Rd w v (bv l)) (hl : 31808 < l.length) :
    Calls Tryd.prog 58 #[.int .u32 id, v] w fun e w' => e = .returned (.tuple #[.slice none 0 0, .int .i64 5]) ∧ w = w' := by
  obtain ⟨a, c, rfl⟩ := hv.form
  rw [bv_length]
  have hI : (31808 : Int) < (l.length : Int) := by omega
  clear hv hl
  generalize l.length = n at *
  go_enter Tryd.func58, Tryd.ntmps58
  go_wp2_with fail
  go_ret2
  exact ⟨rfl, rfl⟩
theorem strCells_bv (l : List UInt8) : Lib.strCells (strOf l) = bv l := by simp [Lib.strCells, strOf, bv, bval]
/-- a string's bytes behind bytes of its own -/
theorem wpl_append_strP {w : World} {ops : Array Oper} {rest : List Oper} {o : Oper} {a : Act} {Q : Exit → Act → World → Prop} (hgd : o.guard = none) (sl x : Operand)
    (ho : o.op = .call { callee := .builtin .append, args := #[sl, x], argTypes := #[27, 9] })
    {B : Nat} {v : Value} {l : List UInt8} (hs : a.eval sl = v) (hown : Own w B 5 v (bv l)) {m : List UInt8} (hx : a.eval x = .string (strOf m))
    (hl : l.length + m.length ≤ 1000000) (hB : B ≤ w.heap.size)
    (h : ∀ v' w', Own w' B 5 v' (bv l ++ bv m) → w.grownBy w' v.ownBlock → wpList Tryd.prog ops Q rest (a.put o.dst v') w') : wpList Tryd.prog ops Q (o :: rest) a w := by
  obtain ⟨i, hi, hz0, hz1, hz2⟩ := info_parts el_byt.hi
  have hivl : (bv l).length = l.length := bv_length l
  refine Lib.wpList_append_own_string w hgd sl x 27 9 ho B 5 i Tryd.underlying27 Tryd.underlying9 hi hz0 hz1 hz2 v (bv l).length (bv l) hs hown (strOf m) hx (by rw [hivl, strOf_size]; unfold maxLen; omega) (by rw [hivl, strOf_size]; omega) hB ?_
  intro v' w' h1 h2 _
  refine h v' w' ?_ h2
  rw [strCells_bv, strOf_size] at h1
  unfold Own
  rw [List.length_append, bv_length m]
  exact h1
theorem rd_lit7 (w : World) (e : TypeId) (a b c d f g h : Value) : Rd (w.alloc (.cells #[a, b, c, d, f, g, h] e)) (.slice (some ⟨w.heap.size, 0, none⟩) 7 7) [a, b, c, d, f, g, h] := (Own.lit w e #[a, b, c, d, f, g, h] (Nat.le_refl _) (by simp)).rd
/-- the head of a part -/
def headL (id c i : Int) : List UInt8 := [lo8 5] ++ be32 id ++ [lo8 c] ++ [lo8 i]
theorem bv_head (id c i : Int) : bv (headL id c i) = [.int .u8 5, .int .u8 (id / 16777216 % 256), .int .u8 (id / 65536 % 256), .int .u8 (id / 256 % 256), .int .u8 (id % 256), .int .u8 (c % 256), .int .u8 (i % 256)] := by
  simp only [headL, be32, bv, List.map_append, List.map_cons, List.map_nil, bval_lo8]
  rfl
set_option maxRecDepth 100000 in
set_option maxHeartbeats 1000000 in
theorem rsplit_any (mk : List UInt8 → List UInt8) (id : Int) (h0 : 0 ≤ id) (h1 : id < 4294967296) (v : Value) (l : List UInt8) (w : World) (hv : Rd w v (bv l)) (hl : l.length ≤ 31808) (ml : (mk l).length = 8)
    (hs : Calls Tryd.prog 79 #[v] w fun e w' => e = .returned (.string (strOf (mk l))) ∧ Kp [] w w') :
    Calls Tryd.prog 58 #[.int .u32 id, v] w fun e w' => ∃ v', e = .returned (.tuple #[v', .int .i64 0]) ∧ Pts w' w.heap.size v' (partsM mk id l) ∧ Kp [] w w' := by
  obtain ⟨ao, cap, rfl⟩ := hv.form
  rw [bv_length] at hv hs ⊢
  have HV := Lib.hid hv
  have HS := Lib.hid hs
  have HML := Lib.hid ml
  have hcs := cntP_small hl
  obtain ⟨c, hc⟩ : ∃ c, cntP l.length = c := ⟨_, rfl⟩
  obtain ⟨n, hn⟩ : ∃ n, l.length = n := ⟨_, rfl⟩
  have HN := Lib.hid hn
  have HCX : Hid ((if (1 : Int) < ((n : Int) + 497 - 1) / 497 then ((n : Int) + 497 - 1) / 497 else 1) = (c : Int)) := Lib.hid (by rw [← hc, ← hn]; unfold cntP; split <;> omega)
  have HPM : Hid (∀ i, partM mk id l i = headL id (c : Int) (i : Int) ++ (mk l ++ contP l i)) := Lib.hid (fun i => by unfold partM headL; rw [hc])
  have HPS : Hid (partsM mk id l = (List.range c).map (partM mk id l)) := Lib.hid (by unfold partsM; rw [hc])
  have HCI : Hid (∀ i, i < c → 497 * i ≤ n) := Lib.hid (fun i hi => by have := (cntP_lt (by rw [← hc] at hi; exact hi)).1; rw [hn] at this; exact this)
  have HCB : Hid (1 ≤ c ∧ c ≤ 64) := Lib.hid (by rw [← hc]; exact hcs)
  rw [hn] at HV HS hl hs hv ⊢
  rw [HPS.out]
  have hnI : ¬ (31808 : Int) < (n : Int) := by omega
  have hn8 : n ≤ 31808 := hl
  generalize partM mk id l = PM at *
  generalize mk l = M at *
  clear hv hs ml hcs hc hn hl HPS
  go_enter Tryd.func58, Tryd.ntmps58
  go_upto_region 4 with fail
  rw [HCX.out]
  clear HCX
  go_wp2_with (first
    | (go_at_call 79; go_must (refine HS.out.mono ?_; rintro e w1 ⟨rfl, hk1⟩; have HK1 := Lib.hid hk1; clear hk1))
    | fail)
  obtain ⟨zs, hzs⟩ : ∃ z, strOf M = z := ⟨_, rfl⟩
  have HZS := Lib.hid hzs
  rw [hzs]
  clear hzs HS
  have hc1 := HCB.out.1
  have hc2 := HCB.out.2
  go_loopw [8, 9] (fun v i wr => ∃ k : Nat, k ≤ c ∧ i = .int .i64 k ∧ Hid (Kp [] w wr ∧ Pts wr w.heap.size v ((List.range k).map PM))) (fun _ i _ => c - (intOf i).toNat)
  case atStart => exact ⟨0, Nat.zero_le _, rfl, Lib.hid ⟨HK1.out, Pts.nil _ _⟩⟩
  case round =>
    clear HK1
    obtain ⟨k, hk, rfl, HR⟩ := hrel
    by_cases hlt : k < c
    · have hkI : (k : Int) < (c : Int) := by omega
      have hkl := HCI.out k hlt
      have HPK := Lib.hid (HPM.out k)
      have HHD : Hid (bv (headL id (c : Int) (k : Int)) = [.int .u8 5, .int .u8 (id / 16777216), .int .u8 (id / 65536 % 256), .int .u8 (id / 256 % 256), .int .u8 (id % 256), .int .u8 (c : Int), .int .u8 (k : Int)]) := Lib.hid (by rw [bv_head, show id / 16777216 % 256 = id / 16777216 by omega, show (c : Int) % 256 = c by omega, show (k : Int) % 256 = k by omega])
      have HRG : Hid ((List.range (k + 1)).map PM = (List.range k).map PM ++ [PM k]) := Lib.hid (by rw [List.range_succ, List.map_append]; rfl)
      have HRL : Hid (((List.range k).map PM).length ≤ 64) := Lib.hid (by rw [List.length_map, List.length_range]; omega)
      have HCL := Lib.hid (contP_len l k)
      obtain ⟨hi, hhi1, hhi2⟩ : ∃ hi : Int, (if (k : Int) * 497 + 497 < (n : Int) then (k : Int) * 497 + 497 else (n : Int)) = hi ∧ (k : Int) * 497 ≤ hi ∧ hi ≤ (n : Int) ∧ (l.take hi.toNat).drop ((k : Int) * 497).toNat = contP l k := by
        have hn := HN.out
        by_cases hm : ¬ (k : Int) * 497 + 497 < (n : Int)
        · refine ⟨n, by rw [if_neg hm], by omega, Int.le_refl _, ?_⟩
          unfold contP
          rw [List.drop_take, show ((k : Int) * 497).toNat = 497 * k by omega, List.take_of_length_le (by rw [List.length_drop]; omega), List.take_of_length_le (by rw [List.length_drop]; omega)]
        · refine ⟨(k : Int) * 497 + 497, by rw [if_pos (by omega)], by omega, by omega, ?_⟩
          unfold contP
          rw [List.drop_take, show ((k : Int) * 497).toNat = 497 * k by omega]
          congr 1
          omega
      obtain ⟨s3, n3, c3, hs3, hr3⟩ := run_subb_lh el_byt HV.out ((k : Int) * 497) hi (by omega) hhi2.1 hhi2.2.1
      rw [hhi2.2.2] at hr3
      have HRD := Lib.hid hr3
      obtain ⟨ct0, hct0⟩ : ∃ ct0, contP l k = ct0 := ⟨_, rfl⟩
      have HCT : Hid (ct0.length ≤ 497) := Lib.hid (by rw [← hct0]; exact HCL.out)
      rw [hct0] at HRD HPK
      clear hr3 hhi2 HCL hct0
      go_wp2_with (first
        | (at_builtin; (refine wpl_append el_u8 rfl (.tmp 27) (.tmp 43) rfl rfl rfl (Own.nil _ wr.heap.size _) (rd_lit7 wr 5 _ _ _ _ _ _ _) (by simp [Value.oneCell']) (by simp) (by simp) (by simp) ?_; intro v4 w4 ho4 hg4; have HO4 : Hid (Own w4 wr.heap.size 5 v4 (bv (headL id (c : Int) (k : Int)))) := Lib.hid (by rw [HHD.out]; exact ho4); have HK4 : Hid (Kp [] wr w4) := Lib.hid (((Kp.refl [] wr).alloc _).grown hg4 (fun b hb => by cases hb)); clear ho4 hg4))
        | (at_builtin; (refine wpl_append_strP (m := M) rfl (.tmp 45) (.tmp 46) rfl rfl HO4.out (by rw [HZS.out]; rfl) (by rw [HML.out]; show 7 + 8 ≤ _; omega) HK4.out.size ?_; intro v5 w5 ho5 hg5; have HO5 : Hid (Own w5 wr.heap.size 5 v5 (bv (headL id (c : Int) (k : Int) ++ M))) := Lib.hid (by rw [bv_append]; exact ho5); have HK5 : Hid (Kp [] wr w5) := Lib.hid (HK4.out.grown hg5 (fun b hb => .inr (HO4.out.lt hb).1)); clear ho5 hg5))
        | (at_builtin; (refine wpl_append el_u8 rfl (.tmp 48) (.tmp 58) rfl rfl rfl HO5.out (HRD.out.kp0 (HR.out.1.trans0 HK5.out)) (bv_oneCell _) (by rw [bv_length, bv_length, List.length_append, HML.out]; have := HCT.out; show 7 + 8 + _ ≤ _; omega) (by rw [bv_length, bv_length, List.length_append, HML.out]; have := HCT.out; show (7 + 8 + _) * 1 ≤ _; omega) HK5.out.size ?_; intro v6 w6 ho6 hg6; obtain ⟨a6, c6, hv6⟩ := ho6.rd.form; obtain ⟨q6, hq6⟩ : ∃ q6, (bv (headL id (c : Int) (k : Int) ++ M) ++ bv ct0).length = q6 := ⟨_, rfl⟩; rw [hq6] at hv6; clear hq6; subst hv6; have HO6 : Hid (Own w6 wr.heap.size 5 _ (bv (PM k))) := Lib.hid (by rw [HPK.out, ← List.append_assoc, bv_append]; exact ho6); have HK6 : Hid (Kp [] wr w6) := Lib.hid (HK5.out.grown hg6 (fun b hb => .inr (HO5.out.lt hb).1)); clear ho6 hg6))
        | (at_builtin; (refine wpl_app_pts rfl (.tmp 60) (.tmp 62) rfl rfl rfl (HR.out.2.kp HK6.out) (HO6.out.base HR.out.1.size) rfl (Nat.le_trans HR.out.1.size HK6.out.size) (by have := HRL.out; omega) ?_; intro v7 w7 hp7 hk7 hb7; have HR7 : Hid (Kp [] w w7 ∧ Pts w7 w.heap.size v7 ((List.range (k + 1)).map PM)) := Lib.hid ⟨(HR.out.1.trans0 HK6.out).trans hk7 (fun b hb => .inr (hb7 b (by simpa using hb))), by rw [HRG.out]; exact hp7⟩; clear hp7 hk7 hb7))
        | fail)
      go_roundw
      case rel => exact ⟨k + 1, by omega, by go_num, HR7⟩
      case measure => simp [intOf]; omega
    · have hke : ¬ (k : Int) < (c : Int) := by omega
      obtain rfl : c = k := by omega
      go_wp2_with fail
      go_ret2
      exact ⟨_, rfl, HR.out.2, HR.out.1⟩
end Go.Proofs.YtkceaepbjdfccaaDoor
/-
letheref26.(*Tray).Add: the plain steps; what lies where.
-/
namespace Go.Proofs.YtkceaepbjdfccaaDoor
open Go.RowKit
theorem filter_ne (l : List Nat) (x : Nat) (nd : l.Nodup) (hx : x ∈ l) (P : Nat → Bool) (hP : P x = true) : (l.filter P).length = (l.filter fun i => P i && i != x).length + 1 := by
  induction l with
  | nil => cases hx
  | cons a l ih =>
    rw [List.nodup_cons] at nd
    by_cases h : a = x
    · subst h
      have h1 : l.filter (fun i => P i && i != a) = l.filter P := List.filter_congr (fun i hi => by
        have : i ≠ a := fun e => nd.1 (e ▸ hi)
        simp [this])
      rw [List.filter_cons_of_pos hP, List.filter_cons_of_neg (by simp), h1, List.length_cons]
    · have hx' : x ∈ l := by rcases List.mem_cons.1 hx with e | e; exact absurd e.symm h; exact e
      have ih' := ih nd.2 hx'
      by_cases hp : P a = true
      · rw [List.filter_cons_of_pos hp, List.filter_cons_of_pos (by simp [hp, h]), List.length_cons, List.length_cons, ih']
      · rw [List.filter_cons_of_neg hp, List.filter_cons_of_neg (by simp [hp]), ih']
theorem miss_set {ps : List (Option (List UInt8))} {ix : Nat} {c : List UInt8} (h : ps[ix]? = some none) : (missL ps).length = (missL (ps.set ix (some c))).length + 1 := by
  have hlt := (List.getElem?_eq_some_iff.1 h).1
  unfold missL missT
  rw [filter_ne (List.range ps.length) ix List.nodup_range (List.mem_range.2 hlt) _ (by simp [List.getD, h]), List.length_set]
  congr 1
  congr 1
  refine List.filter_congr (fun i hi => ?_)
  rw [List.mem_range] at hi
  by_cases e : i = ix
  · subst e
    simp [List.getD, List.getElem?_set_self hlt]
  · rw [List.getD, List.getD, List.getElem?_set_ne (fun h => e h.symm)]
    simp [e]
theorem setE_set : ∀ (T : List Ent) (k : Ky) (i : Nat) (e : Ent) (ix : Nat) (c : List UInt8), (T.map Ent.ky).Nodup → T[i]? = some e → e.ky = k → setE T k ix c = T.set i { e with parts := e.parts.set ix (some c) }
  | [], _, _, _, _, _, _, h, _ => by simp at h
  | a :: T, k, 0, e, ix, c, nd, h, he => by
    obtain rfl : a = e := by simpa using h
    subst he
    rw [List.map_cons, List.nodup_cons] at nd
    unfold setE
    rw [List.map_cons, if_pos rfl, List.set_cons_zero]
    congr 1
    refine (List.map_congr_left (g := fun x => x) (fun x hx => ?_)).trans (List.map_id' T)
    rw [if_neg (fun hh => nd.1 (by rw [← hh]; exact List.mem_map_of_mem hx))]
  | a :: T, k, i + 1, e, ix, c, nd, h, he => by
    rw [List.map_cons, List.nodup_cons] at nd
    have hx : e ∈ T := List.mem_of_getElem? (show T[i]? = some e by simpa using h)
    have ih := setE_set T k i e ix c nd.2 (by simpa using h) he
    unfold setE at ih ⊢
    rw [List.map_cons, if_neg (fun hh => nd.1 (by rw [hh, ← he]; exact List.mem_map_of_mem hx)), ih, List.set_cons_succ]
/-- how Add stands once the place is free -/
def AddJ (most : Int) (T : List Ent) (p : List UInt8) (q : Prt) (ix : Int) (ps : List (Option (List UInt8))) : Prop :=
  (∃ (i : Nat) (e : Ent), ix = (i : Int) ∧ T[i]? = some e ∧ e.ky = (p, q.id) ∧ findE T (p, q.id) = some e ∧ e.parts = ps ∧ e.sum = q.sum) ∨
  (ix = -1 ∧ findE T (p, q.id) = none ∧ ¬ most ≤ (T.length : Int) ∧ ps = List.replicate q.cnt.toNat none)
/-- the list behind Add -/
def AddT (T : List Ent) (p : List UInt8) (q : Prt) (ix : Int) (ps' : List (Option (List UInt8))) : List Ent :=
  if ix = -1 then T ++ [⟨p, q.id, q.sum, ps'⟩] else T.set ix.toNat ⟨p, q.id, q.sum, ps'⟩
theorem addE_J {mk : List UInt8 → List UInt8} {most : Int} {T : List Ent} {p b : List UInt8} {q : Prt} {ix : Int} {ps : List (Option (List UInt8))} (nd : (T.map Ent.ky).Nodup) (hp : peerErr p.length = 0) (hb : readL b = some q) (hJ : AddJ most T p q ix ps) (hl : (ps.length : Int) = q.cnt) (hx : ps[q.idx.toNat]? = some none) :
    addE mk most T p b = if (missL (ps.set q.idx.toNat (some q.cont))).length = 0 ∧ mk (textL (ps.set q.idx.toNat (some q.cont))) ≠ q.sum then ((0, false, 101), T) else ((q.id, decide ((missL (ps.set q.idx.toNat (some q.cont))).length = 0), 0), AddT T p q ix (ps.set q.idx.toNat (some q.cont))) := by
  have hm := miss_set (c := q.cont) hx
  unfold addE
  rw [if_neg (by simp [hp]), hb]
  simp only
  rcases hJ with ⟨i, e, rfl, hi, hk, hf, rfl, hs⟩ | ⟨rfl, hf, hml, rfl⟩
  · rw [hf]
    simp only
    rw [if_neg (by rintro (h | h); exact h hl; exact h hs), if_neg (fun h => h hx)]
    have hk1 : e.peer = p := congrArg Prod.fst hk
    have hk2 : e.id = q.id := congrArg Prod.snd hk
    have hset : setE T (p, q.id) q.idx.toNat q.cont = AddT T p q (i : Int) (e.parts.set q.idx.toNat (some q.cont)) := by
      rw [setE_set T (p, q.id) i e _ _ nd hi hk]
      unfold AddT
      rw [if_neg (by omega), ← hk1, ← hk2, ← hs]
      rfl
    rw [hset, ← hs]
    by_cases hz : (missL (e.parts.set q.idx.toNat (some q.cont))).length = 0 ∧ mk (textL (e.parts.set q.idx.toNat (some q.cont))) ≠ e.sum
    · rw [if_pos hz, if_pos ⟨by omega, hz.2⟩]
    · rw [if_neg hz, if_neg (fun h => hz ⟨by omega, h.2⟩)]
      rw [show decide ((missL e.parts).length = 1) = decide ((missL (e.parts.set q.idx.toNat (some q.cont))).length = 0) from decide_eq_decide.2 (by omega)]
  · rw [hf]
    simp only
    rw [if_neg hml]
    unfold AddT
    rw [if_pos rfl]
    by_cases hz : (missL ((List.replicate q.cnt.toNat (none : Option (List UInt8))).set q.idx.toNat (some q.cont))).length = 0 ∧ mk (textL ((List.replicate q.cnt.toNat none).set q.idx.toNat (some q.cont))) ≠ q.sum
    · rw [if_pos hz, if_pos ⟨by omega, hz.2⟩]
    · rw [if_neg hz, if_neg (fun h => hz ⟨by omega, h.2⟩)]
      rw [show decide ((missL (List.replicate q.cnt.toNat (none : Option (List UInt8)))).length = 1) = decide ((missL ((List.replicate q.cnt.toNat none).set q.idx.toNat (some q.cont))).length = 0) from decide_eq_decide.2 (by omega)]
/-- the parcel that Add makes, in its own box; the contents' blocks are among G1 -/
structure XA (w W : World) (G1 : Nat → Prop) (gx gi gt ci ct n : Nat) (p s : List UInt8) (id : Int) (ps : List (Option (List UInt8))) (vals : List Value) : Prop where
  k : Kp [] w W
  row : W.heap[gx]? = some (.cells #[.string (strOf p), .int .u32 id, .int .i64 (n : Int), .string (strOf s), .slice (some ⟨gi, 0, none⟩) n ci, .slice (some ⟨gt, 0, none⟩) n ct] 153 (0, 0))
  gx : w.heap.size ≤ gx
  oi : Own W w.heap.size 4 (.slice (some ⟨gi, 0, none⟩) n ci) (bls ps)
  ot : Own W w.heap.size 27 (.slice (some ⟨gt, 0, none⟩) n ct) vals
  pl : ps.length = n
  vl : vals.length = n
  v1 : ∀ u ∈ vals, u.oneCell' = true
  vc : ∀ (j : Nat) (x : Value) (c : List UInt8), vals[j]? = some x → (cts ps)[j]? = some c → Rd W x (bv c) ∧ ∀ b, x.ownBlock = some b → G1 b
  c5 : ∀ c ∈ cts ps, c.length ≤ 497
  nn : 1 ≤ n ∧ n ≤ 64
  g1i : ¬ G1 gi
  g1t : ¬ G1 gt
section
variable {w W W' : World} {G1 : Nat → Prop} {gx gi gt ci ct n : Nat} {p s : List UInt8} {id : Int} {ps : List (Option (List UInt8))} {vals : List Value}
theorem XA.kp (h : XA w W G1 gx gi gt ci ct n p s id ps vals) (k : Kp [] W W') : XA w W' G1 gx gi gt ci ct n p s id ps vals :=
  ⟨h.k.trans0 k, k.heap h.row (by simp), h.gx, h.oi.kp0 k, h.ot.kp0 k, h.pl, h.vl, h.v1, fun j x c hx hc => ⟨(h.vc j x c hx hc).1.kp0 k, (h.vc j x c hx hc).2⟩, h.c5, h.nn, h.g1i, h.g1t⟩
theorem XA.rpc (h : XA w W G1 gx gi gt ci ct n p s id ps vals) : RPc W (fun b => G1 b ∨ b = gi ∨ b = gt) ps (.slice (some ⟨gi, 0, none⟩) n ci) (.slice (some ⟨gt, 0, none⟩) n ct) :=
  ⟨h.oi.rd, fun b hb => by cases hb; exact .inr (.inl rfl), ⟨vals, h.ot.rd, by rw [h.vl, h.pl], h.v1, fun j x c hx hc => ⟨(h.vc j x c hx hc).1, fun b hb => .inl ((h.vc j x c hx hc).2 b hb)⟩⟩, fun b hb => by cases hb; exact .inr (.inr rfl), by rw [h.pl]; exact h.nn, h.c5⟩
theorem bls_set (ps : List (Option (List UInt8))) (ix : Nat) (c : List UInt8) : bls (ps.set ix (some c)) = (bls ps).set ix (.bool true) := by simp [bls, List.map_set]
theorem cts_set (ps : List (Option (List UInt8))) (ix : Nat) (c : List UInt8) : cts (ps.set ix (some c)) = (cts ps).set ix c := by simp [cts, List.map_set]
/-- a part put in -/
theorem XA.fill (h : XA w W G1 gx gi gt ci ct n p s id ps vals) {ix : Nat} (hix : ps[ix]? = some none) {xv : Value} {c : List UInt8} (hx : Rd W xv (bv c)) (hxb : ∀ b, xv.ownBlock = some b → G1 b) (hx1 : xv.oneCell' = true) (hc : c.length ≤ 497) :
    ∃ y, W.cell? ⟨gi, ix, none⟩ = some (.bool false) ∧ W.frozen? ⟨gi, ix, none⟩ = false ∧ (W.setCell ⟨gi, ix, none⟩ (.bool true)).cell? ⟨gt, ix, none⟩ = some y ∧ (W.setCell ⟨gi, ix, none⟩ (.bool true)).frozen? ⟨gt, ix, none⟩ = false ∧
      XA w ((W.setCell ⟨gi, ix, none⟩ (.bool true)).setCell ⟨gt, ix, none⟩ xv) G1 gx gi gt ci ct n p s id (ps.set ix (some c)) (vals.set ix xv) := by
  have hlt := (List.getElem?_eq_some_iff.1 hix).1
  obtain ⟨g, hg, hc1, hf1, _, _, hs1⟩ := h.oi.slotV (k := ix) (by rw [bls_len]; exact hlt)
  simp only [Option.some.injEq, Addr.mk.injEq, and_true] at hg
  subst hg
  have k1 : Kp [gi] W (W.setCell ⟨gi, ix, none⟩ (.bool true)) := (Kp.refl [gi] W).setCell (.inl (by simp)) _
  obtain ⟨curi, hci⟩ := h.oi.block rfl
  have hot1 : Own (W.setCell ⟨gi, ix, none⟩ (.bool true)) w.heap.size 27 (.slice (some ⟨gt, 0, none⟩) n ct) vals := h.ot.kp k1 (fun b hb hm => by rw [List.mem_singleton] at hm; subst hm; exact h.ot.not_at hci (by decide) hb)
  obtain ⟨g', hg', hc2, hf2, _, _, hs2⟩ := hot1.slotV (k := ix) (by rw [h.vl, ← h.pl]; exact hlt)
  simp only [Option.some.injEq, Addr.mk.injEq, and_true] at hg'
  subst hg'
  have k2 : Kp [gt] (W.setCell ⟨gi, ix, none⟩ (.bool true)) ((W.setCell ⟨gi, ix, none⟩ (.bool true)).setCell ⟨gt, ix, none⟩ xv) := (Kp.refl [gt] _).setCell (.inl (by simp)) _
  obtain ⟨curt, hct⟩ := hot1.block rfl
  have hrow1 := k1.heap h.row (fun hm => by
    rw [List.mem_singleton] at hm
    have h1 := h.row
    rw [hm, hci] at h1
    simp only [Option.some.injEq, Obj.cells.injEq] at h1
    exact absurd h1.2.1 (by decide))
  have hrow2 := k2.heap hrow1 (fun hm => by
    rw [List.mem_singleton] at hm
    have h1 := hrow1
    rw [hm, hct] at h1
    simp only [Option.some.injEq, Obj.cells.injEq] at h1
    exact absurd h1.2.1 (by decide))
  have hk : ∀ (v : Value) (l : List UInt8), Rd W v (bv l) → (∀ b, v.ownBlock = some b → G1 b) → Rd ((W.setCell ⟨gi, ix, none⟩ (.bool true)).setCell ⟨gt, ix, none⟩ xv) v (bv l) := fun v l hr hb =>
    (hr.kp k1 (fun b hh hm => by rw [List.mem_singleton] at hm; subst hm; exact h.g1i (hb _ hh))).kp k2 (fun b hh hm => by rw [List.mem_singleton] at hm; subst hm; exact h.g1t (hb _ hh))
  refine ⟨_, by rw [hc1]; simp [bls, (List.getElem?_eq_some_iff.1 hix).2], hf1, hc2, hf2, ?_⟩
  have hil := (h.oi.lt rfl).1
  have htl := (h.ot.lt rfl).1
  refine ⟨(h.k.trans k1 (fun m hm => by rw [List.mem_singleton] at hm; subst hm; exact .inr hil)).trans k2 (fun m hm => by rw [List.mem_singleton] at hm; subst hm; exact .inr htl), hrow2, h.gx, ?_, hs2 xv, by rw [List.length_set, h.pl], by rw [List.length_set, h.vl], fun u hu => ?_, fun j x d hj hd => ?_, fun d hd => ?_, h.nn, h.g1i, h.g1t⟩
  · rw [bls_set]
    exact (hs1 (.bool true)).kp k2 (fun b hb hm => by rw [List.mem_singleton] at hm; subst hm; exact (hs1 (.bool true)).not_at hct (by decide) hb)
  · rcases List.mem_or_eq_of_mem_set hu with hu | rfl
    · exact h.v1 u hu
    · exact hx1
  · rw [cts_set] at hd
    by_cases e : ix = j
    · subst e
      rw [List.getElem?_set_self (by rw [h.vl, ← h.pl]; exact hlt)] at hj
      rw [List.getElem?_set_self (by simp [cts]; exact hlt)] at hd
      cases hj; cases hd
      exact ⟨hk _ _ hx hxb, hxb⟩
    · rw [List.getElem?_set_ne e] at hj hd
      have h1 := h.vc j x d hj hd
      exact ⟨hk _ _ h1.1 h1.2, h1.2⟩
  · rw [cts_set] at hd
    rcases List.mem_or_eq_of_mem_set hd with hd | rfl
    · exact h.c5 d hd
    · exact hc
end
section
variable {W : World} {G G' : Nat → Prop} {r : Nat} {most : Int} {lv : Value} {cs : List (List Value)} {T : List Ent}
theorem RTz.moreG (h : RTz W G r most lv cs T) (hG : ∀ b, G b → G' b) (gb : ∀ b, G' b → b < W.heap.size) (gr : ¬ G' r) (gl : ∀ b, lv.ownBlock = some b → ¬ G' b) : RTz W G' r most lv cs T :=
  ⟨gb, h.hr, gr, h.row, gl, h.cl, fun j c e hc he => by
    obtain ⟨iv, tv, h1, h2⟩ := h.ce j c e hc he
    exact ⟨iv, tv, h1, h2.mono hG⟩, h.nd, h.hm, h.len⟩
/-- one parcel written over -/
theorem RTz.setAt (h : RTz W G r most lv cs T) {i lb lc : Nat} {e e' : Ent} {iv tv : Value} (hi : T[i]? = some e) (hk : e'.ky = e.ky) (hlv : lv = .slice (some ⟨lb, 0, none⟩) T.length lc) (hre : RPc W G e'.parts iv tv) :
    RTz (W.setCells lb (i * 6) (ecl e' iv tv)) G r most lv (cs.set i (ecl e' iv tv)) (T.set i e') := by
  have hlt := (List.getElem?_eq_some_iff.1 hi).1
  have k := kp_setCells lb (ecl e' iv tv) (i * 6) W
  subst hlv
  rcases h.row.2 with ⟨h1, _⟩ | ⟨g, cap, cur, hv, hb, hg, hn, hm, hs, ht⟩
  · cases h1
  · simp only [Value.slice.injEq, Option.some.injEq, Addr.mk.injEq, and_true, true_and] at hv
    obtain ⟨rfl, rfl⟩ := hv
    have hin : i * 6 + 6 ≤ cur.size := by rw [hs]; have := Nat.mul_le_mul_right 6 (show i + 1 ≤ lc by omega); omega
    have hrow := setCells_row lb 153 (ecl e' iv tv) (i * 6) cur W hg (by rw [ecl_len]; exact hin)
    have hgl : ¬ G lb := h.gl lb rfl
    have hne : lb ≠ r := by
      rintro rfl
      have h1 := h.hr
      rw [hg] at h1
      simp only [Option.some.injEq, Obj.cells.injEq] at h1
      exact absurd h1.2.1 (by decide)
    have hflat := flat6_set cs i (ecl e' iv tv) h.six (by rw [h.cl]; exact hlt)
    refine ⟨fun b hb => Nat.lt_of_lt_of_le (h.gb b hb) k.size, k.heap h.hr (by simpa using hne.symm), h.gr, ⟨?_, .inr ⟨lb, lc, _, by rw [List.length_set], Nat.zero_le _, hrow, by rw [List.length_set]; exact hn, hm, ?_, ?_⟩⟩, h.gl, by rw [List.length_set, List.length_set, h.cl], fun j c e'' hc he => ?_, ?_, h.hm, by rw [List.length_set]; exact h.len⟩
    · rw [flat_len6 _ (fun c hc => by rcases List.mem_or_eq_of_mem_set hc with hc | rfl; exact h.six c hc; rfl), List.length_set, List.length_set, h.cl]
    · rw [List.size_toArray, List.length_append, List.length_append, List.length_take, List.length_drop, ecl_len, Array.length_toList, ← hs]
      omega
    · rw [List.length_set, hflat, ← ht, ecl_len]
      have hL : cur.toList.length = lc * 6 := by rw [Array.length_toList, hs]
      have hin2 : i * 6 + 6 ≤ lc * 6 := by omega
      have h6 := Nat.mul_le_mul_right 6 (show i + 1 ≤ T.length by omega)
      have h7 := Nat.mul_le_mul_right 6 hn
      generalize cur.toList = L at hL ⊢
      generalize T.length = m at h6 h7 ⊢
      generalize hE : ecl e' iv tv = E
      have hE6 : E.length = 6 := by rw [← hE]; rfl
      clear hE hrow hflat hre hi hk hlt k hin ht hs hg hne hgl hb
      apply List.ext_getElem?
      intro j
      have e1 : (L.take (i * 6)).length = i * 6 := by rw [List.length_take]; omega
      have e2 : ((L.take (m * 6)).take (i * 6)).length = i * 6 := by rw [List.length_take, List.length_take]; omega
      have key : ∀ (A D : List Value), A.length = i * 6 → (A ++ (E ++ D))[j]? = if j < i * 6 then A[j]? else if j - i * 6 < 6 then E[j - i * 6]? else D[j - i * 6 - 6]? := fun A D hA => by
        rw [List.getElem?_append, hA, List.getElem?_append, hE6]
      rw [List.getElem?_take, key _ _ e2]
      show (if j < m * 6 then (List.take (i * 6) L ++ (E ++ List.drop (i * 6 + 6) L))[j]? else none) = _
      rw [key _ _ e1]
      by_cases c1 : j < i * 6
      · rw [if_pos c1, if_pos c1, if_pos (by omega), List.getElem?_take, if_pos c1, List.getElem?_take, if_pos c1, List.getElem?_take, if_pos (by omega)]
      · rw [if_neg c1, if_neg c1]
        by_cases c2 : j - i * 6 < 6
        · rw [if_pos c2, if_pos c2, if_pos (by omega)]
        · rw [if_neg c2, if_neg c2, List.getElem?_drop, List.getElem?_drop, List.getElem?_take]
          have e3 : i * 6 + 6 + (j - i * 6 - 6) = j := by omega
          rw [e3]
    · by_cases hj : i = j
      · subst hj
        rw [List.getElem?_set_self (by rw [h.cl]; exact hlt)] at hc
        rw [List.getElem?_set_self hlt] at he
        cases hc; cases he
        exact ⟨iv, tv, rfl, hre.kp k (fun b hb hG => by rw [List.mem_singleton] at hb; subst hb; exact hgl hG)⟩
      · rw [List.getElem?_set_ne hj] at hc he
        obtain ⟨iv', tv', h1, h2⟩ := h.ce j c e'' hc he
        exact ⟨iv', tv', h1, h2.kp k (fun b hb hG => by rw [List.mem_singleton] at hb; subst hb; exact hgl hG)⟩
    · have : (T.set i e').map Ent.ky = T.map Ent.ky := by
        rw [List.map_set, hk]
        apply List.ext_getElem?
        intro j
        by_cases hj : i = j
        · subst hj
          rw [List.getElem?_set_self (by simpa using hlt), List.getElem?_map, hi]
          rfl
        · rw [List.getElem?_set_ne hj]
      rw [this]
      exact h.nd
end
end Go.Proofs.YtkceaepbjdfccaaDoor
