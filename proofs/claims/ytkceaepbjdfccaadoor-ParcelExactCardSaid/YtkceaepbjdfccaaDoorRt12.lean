/-
letheref26.(*Tray).Add.
-/
import Derived.Test.YtkceaepbjdfccaaDoorRt8
import Derived.Test.YtkceaepbjdfccaaDoorXD
namespace Go.Proofs.YtkceaepbjdfccaaDoor
open Go.RowKit
/-- what Add leaves -/
def AddRes (w w' : World) (G : Nat → Prop) (r : Nat) (most : Int) (lv : Value) (T' : List Ent) : Prop :=
  ∃ (G' : Nat → Prop) (lv' : Value) (cs' : List (List Value)), RTz w' G' r most lv' cs' T' ∧ (∀ b, G' b → G b ∨ w.heap.size ≤ b) ∧ Kp (r :: lv.ownBlock.toList) w w' ∧ ∀ b, lv'.ownBlock = some b → lv.ownBlock = some b ∨ w.heap.size ≤ b
theorem AddRes.same {w w' : World} {G : Nat → Prop} {r : Nat} {most : Int} {lv : Value} {cs : List (List Value)} {T : List Ent} (h : RTz w G r most lv cs T) (k : Kp [] w w') : AddRes w w' G r most lv T :=
  ⟨G, lv, cs, h.kp0 k, fun b hb => .inl hb, k.mono (by simp), fun b hb => .inl hb⟩
theorem AddRes.kp0 {w w' w'' : World} {G : Nat → Prop} {r : Nat} {most : Int} {lv : Value} {T : List Ent} (h : AddRes w w' G r most lv T) (k : Kp [] w' w'') : AddRes w w'' G r most lv T := by
  obtain ⟨G', lv', cs', h1, h2, h3, h4⟩ := h
  exact ⟨G', lv', cs', h1.kp0 k, h2, h3.trans0 k, h4⟩
/-- a list of other parcels put in, whatever was written of the old one -/
theorem RTz.put2 {W0 W : World} {G : Nat → Prop} {r : Nat} {most : Int} {lv : Value} {cs : List (List Value)} {T : List Ent} (h : RTz W0 G r most lv cs T) {L : List Nat} (k0 : Kp L W0 W) (hL : ∀ b ∈ L, ¬ G b ∧ b ≠ r) {v' : Value} {cs' : List (List Value)} {T' : List Ent} (row : W.ownsRow 0 153 6 v' T'.length cs'.flatten) (gl : ∀ b, v'.ownBlock = some b → ¬ G b) (cl : cs'.length = T'.length)
    (ce : ∀ (j : Nat) (c : List Value) (e : Ent), cs'[j]? = some c → T'[j]? = some e → ∃ iv tv, c = ecl e iv tv ∧ RPc W0 G e.parts iv tv) (nd : (T'.map Ent.ky).Nodup) (len : (T'.length : Int) ≤ most) : RTz (W.setCell ⟨r, 0, none⟩ v') G r most v' cs' T' := by
  have k : Kp [r] W (W.setCell ⟨r, 0, none⟩ v') := (Kp.refl [r] W).setCell (.inl (by simp)) _
  have hr := k0.heap h.hr (fun hm => (hL r hm).2 rfl)
  refine ⟨fun b hb => Nat.lt_of_lt_of_le (h.gb b hb) (Nat.le_trans k0.size k.size), heap_setCell_same W r 0 _ _ _ hr, h.gr, ⟨row.1, ?_⟩, gl, cl, fun j c e hc he => ?_, nd, h.hm, len⟩
  · rcases row.2 with hn | ⟨g, cap, cur, hv, hb, hg, x⟩
    · exact .inl hn
    · refine .inr ⟨g, cap, cur, hv, Nat.zero_le _, k.heap hg (fun hm => ?_), x⟩
      rw [List.mem_singleton] at hm
      subst hm
      rw [hg] at hr
      simp only [Option.some.injEq, Obj.cells.injEq] at hr
      exact absurd hr.2.1 (by decide)
  · obtain ⟨iv, tv, h1, h2⟩ := ce j c e hc he
    exact ⟨iv, tv, h1, (h2.kp k0 (fun b hb => (hL b hb).1)).kp k (fun b hb hG => by rw [List.mem_singleton] at hb; subst hb; exact h.gr hG)⟩
theorem find_none {T : List Ent} {k : Ky} (h : findE T k = none) : k ∉ T.map Ent.ky := by
  intro hm
  obtain ⟨e, he, hk⟩ := List.mem_map.1 hm
  have := List.find?_eq_none.1 h e he
  simp [hk] at this
theorem run_app6b (ty : TypeId) {w : World} {v src : Value} {n m : Nat} {xs news : List Value} (hown : w.ownsRow 0 153 6 v n xs) (hsrc : Src6 w src m news) (h1 : ∀ u ∈ news, u.oneCell' = true) (hl : n + m ≤ 1000) :
    ∃ v' w', (Builtin.append_ #[115, 115] ty #[v, src]).run Tryd.prog w = .ok v' w' ∧ w'.ownsRow 0 153 6 v' (n + m) (xs ++ news) ∧ w.grownBy w' v.ownBlock ∧ ∀ b, v'.ownBlock = some b → v.ownBlock = some b ∨ w.heap.size ≤ b := by
  have hdown : ∀ (W : World) (B : Nat) (v : Value) (k : Nat) (l : List Value), W.ownsRow B 153 6 v k l → W.ownsRow 0 153 6 v k l := fun W B v k l h => by
    refine ⟨h.1, ?_⟩
    rcases h.2 with hn | ⟨g, cap, cur, hv, _, x⟩
    · exact .inl hn
    · exact .inr ⟨g, cap, cur, hv, Nat.zero_le _, x⟩
  rcases hown.2 with ⟨rfl, rfl⟩ | ⟨g, cap, cur, rfl, hb, hg, hn, hmx, hs, ht⟩
  · obtain rfl : xs = [] := List.eq_nil_of_length_eq_zero (by have := hown.1; omega)
    obtain ⟨v', w', h2, h3, h4⟩ := run_app6 ty (World.ownsRow_nil w w.heap.size _ 6) hsrc h1 hl (Nat.le_refl _)
    exact ⟨v', w', h2, hdown _ _ _ _ _ h3, h4, fun b hb => .inr (h3.lt b hb).1⟩
  · obtain ⟨a, c, rfl, hnl, hc⟩ := hsrc
    have htt : Tryd.prog.underlying 115 = some (.slice 153) := by kernel_rfl
    have hi0 : (Tryd.prog.info? 153).map (fun i => (i.zero, i.size, i.bytes)) = some (some (.agg #[.string ByteArray.empty, .int .u32 0, .int .i64 0, .string ByteArray.empty, .slice none 0 0, .slice none 0 0]), 6, 96) := by kernel_rfl
    cases hi : Tryd.prog.info? 153 with
    | none => rw [hi] at hi0; simp at hi0
    | some i =>
      rw [hi] at hi0
      simp only [Option.map_some, Option.some.injEq, Prod.mk.injEq] at hi0
      by_cases hroom : n + m ≤ cap
      · obtain ⟨w', hrun, r1, r2⟩ := run_append_fits (P := Tryd.prog) w 0 115 ty 153 i 6 htt hi hi0.2.1 g n cap xs hown a m c news hnl hc h1 hroom
        exact ⟨_, w', hrun, r1, r2, fun b hb => .inl hb⟩
      · obtain ⟨v', w', hrun, r1, r2⟩ := run_append_arg_grows (P := Tryd.prog) w 115 ty 153 i _ 6 96 htt hi hi0.1 hi0.2.1 hi0.2.2 (by kernel_rfl) (by decide) ⟨g, 0, none⟩ n cap xs hown.1 (fun j u hu => by
          rw [Addr.add_lit, Nat.zero_add, cell_of_row w g _ _ _ _ hg]
          rw [← ht, List.getElem?_take] at hu
          split at hu
          · simpa using hu
          · cases hu) a m c news hnl hc (by omega) (by unfold maxLen; omega) (by omega)
        exact ⟨v', w', hrun, hdown _ _ _ _ _ r1, ⟨r2.os, r2.tape, r2.output, r2.size, fun k hk _ => r2.block k hk (by simp)⟩, fun b hb => .inr (r1.lt b hb).1⟩
theorem op_app6 {o : Oper} {a : Act} {Q : Exit → Act → World → Prop} {K : Act → World → Prop} (s x : Operand)
    (hop : o.op = Op.call { callee := Callee.builtin Builtin.append, args := #[s, x], argTypes := #[115, 115] })
    {w : World} {v src : Value} {n m : Nat} {xs news : List Value} (hs : a.eval s = v) (hx : a.eval x = src) (hown : w.ownsRow 0 153 6 v n xs) (hsrc : Src6 w src m news) (h1 : ∀ u ∈ news, u.oneCell' = true) (hl : n + m ≤ 1000)
    (hK : ∀ v' w', w'.ownsRow 0 153 6 v' (n + m) (xs ++ news) → w.grownBy w' v.ownBlock → (∀ b, v'.ownBlock = some b → v.ownBlock = some b ∨ w.heap.size ≤ b) → K (a.put o.dst v') w') : o.wp Tryd.prog a w K Q := by
  obtain ⟨v', w', hr, h2, h3, h4⟩ := run_app6b o.type hown hsrc h1 hl
  unfold Oper.wp
  simp [execOp, hop, resolve, invoke, builtin, hs, hx, hr, Result.andThen]
  exact hK v' w' h2 h3 h4
theorem src6_lit (w : World) (e : Ent) (iv tv : Value) : Src6 (w.alloc (.cells (ecl e iv tv).toArray 153)) (.slice (some ⟨w.heap.size, 0, none⟩) 1 1) 1 (ecl e iv tv) :=
  ⟨⟨w.heap.size, 0, none⟩, 1, rfl, rfl, fun j u hu => by
    rw [Addr.add_lit, Nat.zero_add, cell_of_row _ _ _ _ _ _ (heap_alloc_new w _)]
    simpa using hu⟩
theorem run_mk_bool (W : World) (n : Nat) (h : n ≤ 64) : (Instr.makeSlice 151 (.int .i64 n) (.int .i64 n)).run Tryd.prog W = .ok (.slice (some ⟨W.heap.size, 0, none⟩) n n) (W.alloc (.cells (Array.replicate n (Value.bool false)) 4)) := by
  obtain ⟨i, hi, hz0, hz1, hz2⟩ := info_parts el_bool.hi
  have hr := run_make (P := Tryd.prog) W _ _ i _ el_bool.ht hi hz0 .i64 .i64 n n (by omega) (Int.le_refl _) (by rw [hz2]; omega) (by omega)
  simp only [Int.toNat_natCast] at hr
  rw [hr, hz1, Nat.mul_one]
  have : madeCells (Value.bool false).cells n = (Array.replicate n (Value.bool false)) := by
    apply Array.ext'
    have := toList_madeCells_one (.bool false) n
    simpa [Value.cells] using this
  rw [this]
theorem run_mk_byts (W : World) (n : Nat) (h : n ≤ 64) : (Instr.makeSlice 50 (.int .i64 n) (.int .i64 n)).run Tryd.prog W = .ok (.slice (some ⟨W.heap.size, 0, none⟩) n n) (W.alloc (.cells (Array.replicate n (Value.slice none 0 0)) 27)) := by
  obtain ⟨i, hi, hz0, hz1, hz2⟩ := info_parts el_byts.hi
  have hr := run_make (P := Tryd.prog) W _ _ i _ el_byts.ht hi hz0 .i64 .i64 n n (by omega) (Int.le_refl _) (by rw [hz2]; omega) (by omega)
  simp only [Int.toNat_natCast] at hr
  rw [hr, hz1, Nat.mul_one]
  have : madeCells (Value.slice none 0 0).cells n = (Array.replicate n (Value.slice none 0 0)) := by
    apply Array.ext'
    have := toList_madeCells_one (.slice none 0 0) n
    simpa [Value.cells] using this
  rw [this]
theorem made_bool (W : World) (n B : Nat) (hB : B ≤ W.heap.size) (h : n ≤ 64) : Own (W.alloc (.cells (Array.replicate n (Value.bool false)) 4)) B 4 (.slice (some ⟨W.heap.size, 0, none⟩) n n) (bls (List.replicate n none)) := by
  have := Own.lit W 4 (Array.replicate n (Value.bool false)) hB (by simp; omega)
  simpa [bls] using this
theorem made_byts (W : World) (n B : Nat) (hB : B ≤ W.heap.size) (h : n ≤ 64) : Own (W.alloc (.cells (Array.replicate n (Value.slice none 0 0)) 27)) B 27 (.slice (some ⟨W.heap.size, 0, none⟩) n n) (List.replicate n (.slice none 0 0)) := by
  have := Own.lit W 27 (Array.replicate n (Value.slice none 0 0)) hB (by simp; omega)
  simpa using this
theorem xa_new {w W : World} {G1 : Nat → Prop} {gx gi gt n : Nat} {p s : List UInt8} {id : Int} (k : Kp [] w W) (hgx : w.heap.size ≤ gx)
    (row : W.heap[gx]? = some (.cells #[.string (strOf p), .int .u32 id, .int .i64 (n : Int), .string (strOf s), .slice (some ⟨gi, 0, none⟩) n n, .slice (some ⟨gt, 0, none⟩) n n] 153 (0, 0)))
    (oi : Own W w.heap.size 4 (.slice (some ⟨gi, 0, none⟩) n n) (bls (List.replicate n none))) (ot : Own W w.heap.size 27 (.slice (some ⟨gt, 0, none⟩) n n) (List.replicate n (.slice none 0 0))) (nn : 1 ≤ n ∧ n ≤ 64) (g1i : ¬ G1 gi) (g1t : ¬ G1 gt) :
    XA w W G1 gx gi gt n n n p s id (List.replicate n none) (List.replicate n (.slice none 0 0)) :=
  ⟨k, row, hgx, oi, ot, by simp, by simp, fun u hu => by rw [List.eq_of_mem_replicate hu]; rfl, fun j x c hx hc => by
    have hx' := List.eq_of_mem_replicate (List.mem_of_getElem? hx)
    have hc' : c = [] := by
      have := List.mem_of_getElem? hc
      unfold cts at this
      rw [List.map_replicate] at this
      exact List.eq_of_mem_replicate this
    subst hx' hc'
    exact ⟨Rd.nil W, fun b hb => by cases hb⟩, fun c hc => by
    unfold cts at hc
    rw [List.map_replicate] at hc
    rw [List.eq_of_mem_replicate hc]
    exact Nat.zero_le _, nn, g1i, g1t⟩
section
variable {G : Nat → Prop} {r : Nat} {most : Int} {lv : Value} {cs : List (List Value)} {T : List Ent}
set_option maxRecDepth 100000 in
set_option maxHeartbeats 40000000 in
theorem radd_any (mk : List UInt8 → List UInt8) (p : List UInt8) (v : Value) (b : List UInt8) (w : World) (h : RTz w G r most lv cs T) (hp : p.length ≤ 140737488351232) (hv : Rd w v (bv b)) (hb : b.length ≤ 211106232532992)
    (ms : ∀ W v l, Kp [] w W → Rd W v (bv l) → l.length ≤ 40000 → Calls Tryd.prog 79 #[v] W fun e w' => e = .returned (.string (strOf (mk l))) ∧ Kp [] W w') :
    Calls Tryd.prog 54 #[.pointer (some ⟨r, 0, none⟩), .string (strOf p), v] w fun e w' => e = .returned (.tuple #[.int .u32 (addE mk most T p b).1.1, .bool (addE mk most T p b).1.2.1, .int .i64 (addE mk most T p b).1.2.2]) ∧ AddRes w w' G r most lv (addE mk most T p b).2 := by
  have HNM := Lib.hid (rnamed_any (strOf p) w (by rw [strOf_size]; exact hp))
  rw [strOf_size] at HNM
  have HR := Lib.hid h
  have HRD := Lib.hid (rread_any v b w hv hb)
  have HMS := Lib.hid ms
  clear ms hv
  by_cases hpe : peerErr p.length = 0
  · have hd : decide (peerErr p.length = 0) = true := decide_eq_true hpe
    rw [hd] at HNM
    clear hd
    cases hq : readL b with
    | none =>
      have HA : Hid (addE mk most T p b = ((0, false, 260), T)) := Lib.hid (by unfold addE; rw [if_neg (by simp [hpe]), hq])
      have HRN : Hid (Calls Tryd.prog 75 #[v] w fun e w' => e = .returned (.tuple #[.agg #[.int .u32 0, .int .i64 0, .int .i64 0, .string ⟨#[]⟩, .slice none 0 0], .bool false]) ∧ Kp [] w w') := Lib.hid (HRD.out.mono fun e w' ⟨k, h⟩ => by
        rcases h with ⟨_, h2⟩ | ⟨q, _, _, h2, _⟩
        · exact ⟨h2, k⟩
        · rw [hq] at h2; cases h2)
      rw [HA.out]
      clear HRD hq h hpe
      generalize strOf p = sp at *
      go_enter Tryd.func54, Tryd.ntmps54
      go_wp2_with (first
        | (go_at_call 74; go_must (refine HNM.out.mono ?_; rintro e w1 ⟨rfl, rfl⟩))
        | (go_at_call 75; go_must (refine HRN.out.mono ?_; rintro e w2 ⟨rfl, hk2⟩; have HK2 := Lib.hid hk2; clear hk2))
        | fail)
      go_ret3
      exact ⟨rfl, AddRes.same HR.out (HK2.out.alloc _)⟩
    | some q =>
      have HQ := Lib.hid (readL_ok hq)
      have HRS : Hid (Calls Tryd.prog 75 #[v] w fun e w' => ∃ a c, e = .returned (.tuple #[.agg #[.int .u32 q.id, .int .i64 q.cnt, .int .i64 q.idx, .string (strOf q.sum), .slice a q.cont.length c], .bool true]) ∧ Own w' w.heap.size 5 (.slice a q.cont.length c) (bv q.cont) ∧ Kp [] w w') := Lib.hid (HRD.out.mono fun e w' ⟨k, h⟩ => by
        rcases h with ⟨h2, _⟩ | ⟨q', a, c, h2, h3, h4⟩
        · rw [hq] at h2; cases h2
        · rw [hq] at h2; cases h2; exact ⟨a, c, h3, h4, k⟩)
      obtain ⟨ix, hfa, hix0⟩ : ∃ ix, FindAt T (p, q.id) ix ∧ ((ix = -1 ∧ findE T (p, q.id) = none) ∨ ∃ (i : Nat) (e : Ent), ix = (i : Int) ∧ T[i]? = some e ∧ e.ky = (p, q.id) ∧ findE T (p, q.id) = some e) := by
        rcases findAt_or T (p, q.id) with ⟨h1, h2⟩ | ⟨i, e, h1, h2, h3, h4⟩
        · exact ⟨-1, h1, .inl ⟨rfl, h2⟩⟩
        · exact ⟨i, h1, .inr ⟨i, e, rfl, h2, h3, h4⟩⟩
      have HF := Lib.hid (fun X (k : Kp [] w X) => find_any p q.id ix X (h.kp0 k) hfa)
      have HIX := Lib.hid hix0
      have HBQ := Lib.hid hq
      have HPE := Lib.hid hpe
      obtain ⟨n, hn⟩ : ∃ n : Nat, q.cnt = (n : Int) := ⟨q.cnt.toNat, by have := HQ.out.c1; omega⟩
      obtain ⟨x, hx⟩ : ∃ x : Nat, q.idx = (x : Int) := ⟨q.idx.toNat, by have := HQ.out.i0; omega⟩
      have HNX : Hid (1 ≤ n ∧ n ≤ 64 ∧ x < n ∧ q.cnt.toNat = n ∧ q.idx.toNat = x ∧ q.cont.length ≤ 497) := Lib.hid (by have h1 := HQ.out.c1; have h2 := HQ.out.c2; have h3 := HQ.out.i1; have h4 := HQ.out.l; rw [hn, hx] at *; exact ⟨by omega, by omega, by omega, by omega, by omega, h4⟩)
      have HCN := Lib.hid hn
      have HXN := Lib.hid hx
      rw [hn, hx] at HRS
      have hn1 := HNX.out.1
      have hn64 := HNX.out.2.1
      have hxn := HNX.out.2.2.1
      have HTL := Lib.hid h.nat
      obtain ⟨m, hm⟩ : ∃ m, q.cont.length = m := ⟨_, rfl⟩
      have HMM := Lib.hid hm
      rw [hm] at HRS
      clear HRD hq h hpe hfa hix0 hn hx hm
      obtain ⟨sp, hsp⟩ : ∃ sp, strOf p = sp := ⟨_, rfl⟩
      have HSP := Lib.hid hsp
      rw [hsp] at HNM HF ⊢
      obtain ⟨ss, hss⟩ : ∃ ss, strOf q.sum = ss := ⟨_, rfl⟩
      have HSS := Lib.hid hss
      rw [hss] at HRS
      obtain ⟨qi, hqi⟩ : ∃ qi, q.id = qi := ⟨_, rfl⟩
      have HQI := Lib.hid hqi
      rw [hqi] at HRS HF
      clear hsp hss hqi
      go_enter Tryd.func54, Tryd.ntmps54
      go_upto_region 4 with (first
        | (go_at_call 74; go_must (refine HNM.out.mono ?_; rintro e w1 ⟨rfl, rfl⟩))
        | (go_at_call 75; go_must (refine HRS.out.mono ?_; rintro e w2 ⟨pa, pc, rfl, hop, hk2⟩; have HOP := Lib.hid hop; have HK2 := Lib.hid hk2; clear hop hk2))
        | fail)
      obtain ⟨w3, hw3⟩ : ∃ w3, w2.alloc (.cells #[.int .u32 qi, .int .i64 (n : Int), .int .i64 (x : Int), .string ss, .slice pa m pc] 147) = w3 := ⟨_, rfl⟩
      have HK3 : Hid (Kp [] w w3) := Lib.hid (by rw [← hw3]; exact HK2.out.alloc _)
      have HOP3 : Hid (Own w3 w.heap.size 5 (.slice pa m pc) (bv q.cont)) := Lib.hid (by rw [← hw3]; exact HOP.out.kp0 ((Kp.refl [] w2).alloc _))
      have HP9 : Hid (w3.heap[w2.heap.size]? = some (.cells #[.int .u32 qi, .int .i64 (n : Int), .int .i64 (x : Int), .string ss, .slice pa m pc] 147 (0, 0))) := Lib.hid (by rw [← hw3]; exact heap_alloc_new w2 _)
      have hp0 : w3.cell? ⟨w2.heap.size, 0, none⟩ = some (.int .u32 qi) := by rw [cell_of_row _ _ 0 _ _ _ HP9.out]; rfl
      rw [hw3]
      clear hw3 HOP HNM HRS
      have HG9 : Hid (w.heap.size ≤ w2.heap.size) := Lib.hid HK2.out.size
      clear HK2
      generalize w2.heap.size = g9 at *
      go_upto_region 7 with (first
        | (go_at_call 76; go_must (refine (HF.out w3 HK3.out).mono ?_; rintro e w4 ⟨rfl, rfl⟩))
        | fail)
      clear HF hp0
      go_cut [12] (fun xv w' => ∃ gx gi gt : Nat, xv = .pointer (some ⟨gx, 0, none⟩) ∧ gx ≠ g9 ∧ Hid (XA w w' (fun b => G b ∨ (Value.slice pa m pc).ownBlock = some b) gx gi gt n n n p q.sum q.id (List.replicate n none) (List.replicate n (.slice none 0 0)) ∧ Kp [] w3 w'))
      case first =>
        have hp0 : ∀ W, Kp [] w3 W → W.cell? ⟨g9, 0, none⟩ = some (.int .u32 qi) := fun W k => k.cell_some (by rw [cell_of_row _ _ 0 _ _ _ HP9.out]; rfl) (by simp)
        have hp1 : ∀ W, Kp [] w3 W → W.cell? ⟨g9, 1, none⟩ = some (.int .i64 (n : Int)) := fun W k => k.cell_some (by rw [cell_of_row _ _ 1 _ _ _ HP9.out]; rfl) (by simp)
        have hp3 : ∀ W, Kp [] w3 W → W.cell? ⟨g9, 3, none⟩ = some (.string ss) := fun W k => k.cell_some (by rw [cell_of_row _ _ 3 _ _ _ HP9.out]; rfl) (by simp)
        have h9l : g9 < w3.heap.size := (Array.getElem?_eq_some_iff.1 HP9.out).1
        have hmkB : ∀ W, (Instr.makeSlice 151 (.int .i64 n) (.int .i64 n)).run Tryd.prog W = .ok (.slice (some ⟨W.heap.size, 0, none⟩) n n) (W.alloc (.cells (Array.replicate n (Value.bool false)) 4)) := fun W => run_mk_bool W n hn64
        have hmkT : ∀ W, (Instr.makeSlice 50 (.int .i64 n) (.int .i64 n)).run Tryd.prog W = .ok (.slice (some ⟨W.heap.size, 0, none⟩) n n) (W.alloc (.cells (Array.replicate n (Value.slice none 0 0)) 27)) := fun W => run_mk_byts W n hn64
        have hnI : (n : Int) ≤ 64 := by omega
        have hnJ : (1 : Int) ≤ (n : Int) := by omega
        refine wp_region_noPanic ?_
        refine wp_region_held_drew (S := fun W => Kp [] w3 W) (by kernel_rfl) ((Kp.refl [] w3).drew) (fun hHeld => ?_)
        refine wpAnyH_take (i := 0) (oi := { dst := some 28, op := Op.move (Operand.tmp 1), type := 9, pos := "ref.go:147", after := #[], guard := none }) (v := .string sp) rfl (by kernel_rfl) (by kernel_rfl) (by kernel_rfl) (fun _ _ _ h => h) (Or.inl ⟨by rfl, by intro w hSw; (try dsimp only at hSw); go_simp⟩) (by assumption) ?_
        try simp only [Act.put, List.setIfInBounds_toArray, List.set_cons_zero, List.set_cons_succ]
        refine wpAnyH_take (i := 1) (oi := { dst := some 29, op := Op.fieldAddr 147 (Operand.tmp 9) 0, type := 0, pos := "ref.go:147", after := #[], guard := none }) (v := .pointer (some ⟨g9, 0, none⟩)) rfl (by kernel_rfl) (by kernel_rfl) (by kernel_rfl) (fun _ _ _ h => h) (Or.inl ⟨by rfl, by intro w hSw; (try dsimp only at hSw); go_simp⟩) (by assumption) ?_
        try simp only [Act.put, List.setIfInBounds_toArray, List.set_cons_zero, List.set_cons_succ]
        refine wpAnyH_take (i := 2) (oi := { dst := some 30, op := Op.load 48 (Operand.tmp 29), type := 48, pos := "ref.go:147", after := #[{ on := 1, ground := Ground.data }], guard := none }) (v := .int .u32 qi) rfl (by kernel_rfl) (by kernel_rfl) (by kernel_rfl) (fun _ _ _ h => h) (Or.inl ⟨by rfl, by intro w hSw; (try dsimp only at hSw); have hcx := hp0 _ hSw; go_simp⟩) (by assumption) ?_
        try simp only [Act.put, List.setIfInBounds_toArray, List.set_cons_zero, List.set_cons_succ]
        refine wpAnyH_take (i := 3) (oi := { dst := some 31, op := Op.fieldAddr 147 (Operand.tmp 9) 1, type := 0, pos := "ref.go:147", after := #[], guard := none }) (v := .pointer (some ⟨g9, 1, none⟩)) rfl (by kernel_rfl) (by kernel_rfl) (by kernel_rfl) (fun _ _ _ h => h) (Or.inl ⟨by rfl, by intro w hSw; (try dsimp only at hSw); go_simp⟩) (by assumption) ?_
        try simp only [Act.put, List.setIfInBounds_toArray, List.set_cons_zero, List.set_cons_succ]
        refine wpAnyH_take (i := 4) (oi := { dst := some 32, op := Op.load 3 (Operand.tmp 31), type := 3, pos := "ref.go:147", after := #[{ on := 3, ground := Ground.data }], guard := none }) (v := .int .i64 (n : Int)) rfl (by kernel_rfl) (by kernel_rfl) (by kernel_rfl) (fun _ _ _ h => h) (Or.inl ⟨by rfl, by intro w hSw; (try dsimp only at hSw); have hcx := hp1 _ hSw; go_simp⟩) (by assumption) ?_
        try simp only [Act.put, List.setIfInBounds_toArray, List.set_cons_zero, List.set_cons_succ]
        refine wpAnyH_take (i := 5) (oi := { dst := some 33, op := Op.fieldAddr 147 (Operand.tmp 9) 3, type := 0, pos := "ref.go:147", after := #[], guard := none }) (v := .pointer (some ⟨g9, 3, none⟩)) rfl (by kernel_rfl) (by kernel_rfl) (by kernel_rfl) (fun _ _ _ h => h) (Or.inl ⟨by rfl, by intro w hSw; (try dsimp only at hSw); go_simp⟩) (by assumption) ?_
        try simp only [Act.put, List.setIfInBounds_toArray, List.set_cons_zero, List.set_cons_succ]
        refine wpAnyH_take (i := 6) (oi := { dst := some 34, op := Op.load 9 (Operand.tmp 33), type := 9, pos := "ref.go:147", after := #[{ on := 5, ground := Ground.data }], guard := none }) (v := .string ss) rfl (by kernel_rfl) (by kernel_rfl) (by kernel_rfl) (fun _ _ _ h => h) (Or.inl ⟨by rfl, by intro w hSw; (try dsimp only at hSw); have hcx := hp3 _ hSw; go_simp⟩) (by assumption) ?_
        try simp only [Act.put, List.setIfInBounds_toArray, List.set_cons_zero, List.set_cons_succ]
        refine wpAnyH_take (i := 7) (oi := { dst := some 35, op := Op.fieldAddr 147 (Operand.tmp 9) 1, type := 0, pos := "ref.go:147", after := #[], guard := none }) (v := .pointer (some ⟨g9, 1, none⟩)) rfl (by kernel_rfl) (by kernel_rfl) (by kernel_rfl) (fun _ _ _ h => h) (Or.inl ⟨by rfl, by intro w hSw; (try dsimp only at hSw); go_simp⟩) (by assumption) ?_
        try simp only [Act.put, List.setIfInBounds_toArray, List.set_cons_zero, List.set_cons_succ]
        refine wpAnyH_take (i := 8) (oi := { dst := some 36, op := Op.load 3 (Operand.tmp 35), type := 3, pos := "ref.go:147", after := #[{ on := 7, ground := Ground.data }], guard := none }) (v := .int .i64 (n : Int)) rfl (by kernel_rfl) (by kernel_rfl) (by kernel_rfl) (fun _ _ _ h => h) (Or.inl ⟨by rfl, by intro w hSw; (try dsimp only at hSw); have hcx := hp1 _ hSw; go_simp⟩) (by assumption) ?_
        try simp only [Act.put, List.setIfInBounds_toArray, List.set_cons_zero, List.set_cons_succ]
        refine wpAnyH_take (i := 10) (oi := { dst := some 38, op := Op.fieldAddr 147 (Operand.tmp 9) 1, type := 0, pos := "ref.go:147", after := #[], guard := none }) (v := .pointer (some ⟨g9, 1, none⟩)) rfl (by kernel_rfl) (by kernel_rfl) (by kernel_rfl) (fun _ _ _ h => h) (Or.inl ⟨by rfl, by intro w hSw; (try dsimp only at hSw); go_simp⟩) (by assumption) ?_
        try simp only [Act.put, List.setIfInBounds_toArray, List.set_cons_zero, List.set_cons_succ]
        refine wpAnyH_take (i := 11) (oi := { dst := some 39, op := Op.load 3 (Operand.tmp 38), type := 3, pos := "ref.go:147", after := #[{ on := 10, ground := Ground.data }], guard := none }) (v := .int .i64 (n : Int)) rfl (by kernel_rfl) (by kernel_rfl) (by kernel_rfl) (fun _ _ _ h => h) (Or.inl ⟨by rfl, by intro w hSw; (try dsimp only at hSw); have hcx := hp1 _ hSw; go_simp⟩) (by assumption) ?_
        try simp only [Act.put, List.setIfInBounds_toArray, List.set_cons_zero, List.set_cons_succ]
        generalize w3.drew = W0 at *
        refine wpAnyH_ready (rs := [9, 12, 14]) (by kernel_rfl) (by simp) ?_
        refine AllReadyH.cons (o := { dst := some 37, op := Op.makeSlice 151 (Operand.tmp 36) (Operand.tmp 36), type := 151, pos := "ref.go:147", after := #[{ on := 8, ground := Ground.data }, { on := 8, ground := Ground.data }], guard := none }) rfl (fun K' hK => ?_) (AllReadyH.cons (o := { dst := some 40, op := Op.makeSlice 50 (Operand.tmp 39) (Operand.tmp 39), type := 50, pos := "ref.go:147", after := #[{ on := 11, ground := Ground.data }, { on := 11, ground := Ground.data }], guard := none }) rfl (fun K' hK => ?_) (AllReadyH.cons (o := { dst := some 12, op := Op.alloc 153, type := 0, pos := "ref.go:147", after := #[], guard := none }) rfl (fun K' hK => ?_) AllReadyH.nil))
        · go_simp
          have kA : Kp [] W0 (W0.alloc (.cells (Array.replicate n (Value.bool false)) 4)) := (Kp.refl [] W0).alloc _
          have hlegi : w3.heap.size ≤ W0.heap.size := hHeld.size
          have oi := made_bool W0 n w.heap.size (Nat.le_trans HK3.out.size hHeld.size) hn64
          (try go_simp)
          refine hK.out _ _ (hHeld.trans0 kA) (fun hHeld => ?_)
          clear hK K'
          try simp only [Act.put, List.setIfInBounds_toArray, List.set_cons_zero, List.set_cons_succ]
          clear kA
          generalize W0.alloc (.cells (Array.replicate n (Value.bool false)) 4) = W1 at *
          generalize W0.heap.size = gi at *
          refine wpAnyH_ready (rs := [12, 14]) (by kernel_rfl) (by simp) ?_
          refine AllReadyH.cons (o := { dst := some 40, op := Op.makeSlice 50 (Operand.tmp 39) (Operand.tmp 39), type := 50, pos := "ref.go:147", after := #[{ on := 11, ground := Ground.data }, { on := 11, ground := Ground.data }], guard := none }) rfl (fun K' hK => ?_) (AllReadyH.cons (o := { dst := some 12, op := Op.alloc 153, type := 0, pos := "ref.go:147", after := #[], guard := none }) rfl (fun K' hK => ?_) AllReadyH.nil)
          · go_simp
            have kA : Kp [] W1 (W1.alloc (.cells (Array.replicate n (Value.slice none 0 0)) 27)) := (Kp.refl [] W1).alloc _
            have hlegt : w3.heap.size ≤ W1.heap.size := hHeld.size
            have hltgigt : gi < W1.heap.size := (oi.lt rfl).2
            replace oi := oi.kp0 kA
            have ot := made_byts W1 n w.heap.size (Nat.le_trans HK3.out.size hHeld.size) hn64
            (try go_simp)
            refine hK.out _ _ (hHeld.trans0 kA) (fun hHeld => ?_)
            clear hK K'
            try simp only [Act.put, List.setIfInBounds_toArray, List.set_cons_zero, List.set_cons_succ]
            clear kA
            generalize W1.alloc (.cells (Array.replicate n (Value.slice none 0 0)) 27) = W2 at *
            generalize W1.heap.size = gt at *
            refine wpAnyH_take (i := 13) (oi := { dst := some 41, op := Op.build 153 #[(0, Operand.tmp 28), (1, Operand.tmp 30), (2, Operand.tmp 32), (3, Operand.tmp 34), (4, Operand.tmp 37), (5, Operand.tmp 40)], type := 153, pos := "ref.go:147", after := #[{ on := 0, ground := Ground.data }, { on := 2, ground := Ground.data }, { on := 4, ground := Ground.data }, { on := 6, ground := Ground.data }, { on := 9, ground := Ground.data }, { on := 12, ground := Ground.data }], guard := none }) (v := .agg #[.string sp, .int .u32 qi, .int .i64 (n : Int), .string ss, .slice (some ⟨gi, 0, none⟩) n n, .slice (some ⟨gt, 0, none⟩) n n]) rfl (by kernel_rfl) (by kernel_rfl) (by kernel_rfl) (fun _ _ _ h => h) (Or.inl ⟨by rfl, by intro w hSw; (try dsimp only at hSw); go_simp⟩) (by assumption) ?_
            try simp only [Act.put, List.setIfInBounds_toArray, List.set_cons_zero, List.set_cons_succ]
            refine wpAnyH_ready (rs := [14]) (by kernel_rfl) (by simp) ?_
            refine AllReadyH.cons (o := { dst := some 12, op := Op.alloc 153, type := 0, pos := "ref.go:147", after := #[], guard := none }) rfl (fun K' hK => ?_) AllReadyH.nil
            go_simp
            have kA : Kp [] W2 (W2.alloc (.cells #[.string ⟨#[]⟩, .int .u32 0, .int .i64 0, .string ⟨#[]⟩, .slice none 0 0, .slice none 0 0] 153)) := (Kp.refl [] W2).alloc _
            have hlegx : w3.heap.size ≤ W2.heap.size := hHeld.size
            have hltgigx : gi < W2.heap.size := (oi.lt rfl).2
            replace oi := oi.kp0 kA
            have hltgtgx : gt < W2.heap.size := (ot.lt rfl).2
            replace ot := ot.kp0 kA
            have hrow : (W2.alloc (.cells #[.string ⟨#[]⟩, .int .u32 0, .int .i64 0, .string ⟨#[]⟩, .slice none 0 0, .slice none 0 0] 153)).heap[W2.heap.size]? = some (.cells #[.string ⟨#[]⟩, .int .u32 0, .int .i64 0, .string ⟨#[]⟩, .slice none 0 0, .slice none 0 0] 153 (0, 0)) := heap_alloc_new W2 _
            (try go_simp)
            refine hK.out _ _ (hHeld.trans0 kA) (fun hHeld => ?_)
            clear hK K'
            try simp only [Act.put, List.setIfInBounds_toArray, List.set_cons_zero, List.set_cons_succ]
            clear kA
            generalize W2.alloc (.cells #[.string ⟨#[]⟩, .int .u32 0, .int .i64 0, .string ⟨#[]⟩, .slice none 0 0, .slice none 0 0] 153) = W3 at *
            generalize W2.heap.size = gx at *
            refine wpAnyH_ready (rs := [15]) (by kernel_rfl) (by simp) ?_
            refine AllReadyH.cons (o := { dst := none, op := Op.store 153 (Operand.tmp 12) (Operand.tmp 41), type := 0, pos := "ref.go:147", after := #[{ on := 14, ground := Ground.data }, { on := 13, ground := Ground.data }, { on := 0, ground := Ground.phase }, { on := 1, ground := Ground.phase }, { on := 2, ground := Ground.phase }, { on := 3, ground := Ground.phase }, { on := 4, ground := Ground.phase }, { on := 5, ground := Ground.phase }, { on := 6, ground := Ground.phase }, { on := 7, ground := Ground.phase }, { on := 8, ground := Ground.phase }, { on := 9, ground := Ground.phase }, { on := 10, ground := Ground.phase }, { on := 11, ground := Ground.phase }, { on := 12, ground := Ground.phase }, { on := 13, ground := Ground.phase }, { on := 14, ground := Ground.phase }], guard := none }) rfl (fun K' hK => ?_) AllReadyH.nil
            refine wp_store_row 153 (.tmp 12) (.tmp 41) (by rfl) gx #[.string sp, .int .u32 qi, .int .i64 (n : Int), .string ss, .slice (some ⟨gi, 0, none⟩) n n, .slice (some ⟨gt, 0, none⟩) n n] (by rfl) (by rfl) 153 #[.string ⟨#[]⟩, .int .u32 0, .int .i64 0, .string ⟨#[]⟩, .slice none 0 0, .slice none 0 0] hrow (by kernel_rfl) rfl (by simp [Value.oneCell']) ?_
            have kS := kp_setRow W3 gx #[.string sp, .int .u32 qi, .int .i64 (n : Int), .string ss, .slice (some ⟨gi, 0, none⟩) n n, .slice (some ⟨gt, 0, none⟩) n n]
            have hfin : (W3.setRow gx #[.string sp, .int .u32 qi, .int .i64 (n : Int), .string ss, .slice (some ⟨gi, 0, none⟩) n n, .slice (some ⟨gt, 0, none⟩) n n]).heap[gx]? = some (.cells #[.string sp, .int .u32 qi, .int .i64 (n : Int), .string ss, .slice (some ⟨gi, 0, none⟩) n n, .slice (some ⟨gt, 0, none⟩) n n] 153 (0, 0)) := setRow_heap _ _ _ _ _ _ hrow
            have kSw : Kp [] w3 (W3.setRow gx #[.string sp, .int .u32 qi, .int .i64 (n : Int), .string ss, .slice (some ⟨gi, 0, none⟩) n n, .slice (some ⟨gt, 0, none⟩) n n]) := hHeld.trans kS (fun m hm => by rw [List.mem_singleton] at hm; subst hm; exact .inr hlegx)
            replace oi := oi.kp kS (fun b hb hm => by rw [List.mem_singleton] at hm; subst hm; exact oi.not_at hrow (by decide) hb)
            replace ot := ot.kp kS (fun b hb hm => by rw [List.mem_singleton] at hm; subst hm; exact ot.not_at hrow (by decide) hb)
            (try go_simp)
            refine hK.out _ _ (kSw) (fun hHeld => ?_)
            clear hK K'
            try simp only [Act.put, List.setIfInBounds_toArray, List.set_cons_zero, List.set_cons_succ]
            refine wpAnyH_done (by kernel_rfl) ?_ _
            refine NoPanic.normal ?_
            have hw3 := HK3.out.size
            have hg1 : ∀ g, w3.heap.size ≤ g → ¬ (G g ∨ (Value.slice pa m pc).ownBlock = some g) := fun g hg hh => by
              rcases hh with hh | hh
              · have := HR.out.gb g hh; omega
              · have := (HOP3.out.lt hh).2; omega
            have HX := Lib.hid (xa_new (G1 := fun b => G b ∨ (Value.slice pa m pc).ownBlock = some b) (p := p) (s := q.sum) (id := q.id) (HK3.out.trans0 kSw) (Nat.le_trans hw3 hlegx) (by rw [HSP.out, HSS.out, HQI.out]; exact hfin) oi ot ⟨hn1, hn64⟩ (hg1 _ hlegi) (hg1 _ hlegt))
            have HKS := Lib.hid kSw
            have HNE : Hid (gx ≠ g9) := Lib.hid (by omega)
            clear kSw hfin oi ot hrow kS hHeld hg1
            go_wp2_with fail
            go_meet
            exact ⟨gx, gi, gt, rfl, HNE.out, Lib.hid ⟨HX.out, HKS.out⟩⟩
          · go_simp
            have kA : Kp [] W1 (W1.alloc (.cells #[.string ⟨#[]⟩, .int .u32 0, .int .i64 0, .string ⟨#[]⟩, .slice none 0 0, .slice none 0 0] 153)) := (Kp.refl [] W1).alloc _
            have hlegx : w3.heap.size ≤ W1.heap.size := hHeld.size
            have hltgigx : gi < W1.heap.size := (oi.lt rfl).2
            replace oi := oi.kp0 kA
            have hrow : (W1.alloc (.cells #[.string ⟨#[]⟩, .int .u32 0, .int .i64 0, .string ⟨#[]⟩, .slice none 0 0, .slice none 0 0] 153)).heap[W1.heap.size]? = some (.cells #[.string ⟨#[]⟩, .int .u32 0, .int .i64 0, .string ⟨#[]⟩, .slice none 0 0, .slice none 0 0] 153 (0, 0)) := heap_alloc_new W1 _
            (try go_simp)
            refine hK.out _ _ (hHeld.trans0 kA) (fun hHeld => ?_)
            clear hK K'
            try simp only [Act.put, List.setIfInBounds_toArray, List.set_cons_zero, List.set_cons_succ]
            clear kA
            generalize W1.alloc (.cells #[.string ⟨#[]⟩, .int .u32 0, .int .i64 0, .string ⟨#[]⟩, .slice none 0 0, .slice none 0 0] 153) = W2 at *
            generalize W1.heap.size = gx at *
            refine wpAnyH_ready (rs := [12]) (by kernel_rfl) (by simp) ?_
            refine AllReadyH.cons (o := { dst := some 40, op := Op.makeSlice 50 (Operand.tmp 39) (Operand.tmp 39), type := 50, pos := "ref.go:147", after := #[{ on := 11, ground := Ground.data }, { on := 11, ground := Ground.data }], guard := none }) rfl (fun K' hK => ?_) AllReadyH.nil
            go_simp
            have kA : Kp [] W2 (W2.alloc (.cells (Array.replicate n (Value.slice none 0 0)) 27)) := (Kp.refl [] W2).alloc _
            have hlegt : w3.heap.size ≤ W2.heap.size := hHeld.size
            have hltgigt : gi < W2.heap.size := (oi.lt rfl).2
            replace oi := oi.kp0 kA
            have hltgxgt : gx < W2.heap.size := (Array.getElem?_eq_some_iff.1 hrow).1
            replace hrow := kA.heap hrow (by simp)
            have ot := made_byts W2 n w.heap.size (Nat.le_trans HK3.out.size hHeld.size) hn64
            (try go_simp)
            refine hK.out _ _ (hHeld.trans0 kA) (fun hHeld => ?_)
            clear hK K'
            try simp only [Act.put, List.setIfInBounds_toArray, List.set_cons_zero, List.set_cons_succ]
            clear kA
            generalize W2.alloc (.cells (Array.replicate n (Value.slice none 0 0)) 27) = W3 at *
            generalize W2.heap.size = gt at *
            refine wpAnyH_take (i := 13) (oi := { dst := some 41, op := Op.build 153 #[(0, Operand.tmp 28), (1, Operand.tmp 30), (2, Operand.tmp 32), (3, Operand.tmp 34), (4, Operand.tmp 37), (5, Operand.tmp 40)], type := 153, pos := "ref.go:147", after := #[{ on := 0, ground := Ground.data }, { on := 2, ground := Ground.data }, { on := 4, ground := Ground.data }, { on := 6, ground := Ground.data }, { on := 9, ground := Ground.data }, { on := 12, ground := Ground.data }], guard := none }) (v := .agg #[.string sp, .int .u32 qi, .int .i64 (n : Int), .string ss, .slice (some ⟨gi, 0, none⟩) n n, .slice (some ⟨gt, 0, none⟩) n n]) rfl (by kernel_rfl) (by kernel_rfl) (by kernel_rfl) (fun _ _ _ h => h) (Or.inl ⟨by rfl, by intro w hSw; (try dsimp only at hSw); go_simp⟩) (by assumption) ?_
            try simp only [Act.put, List.setIfInBounds_toArray, List.set_cons_zero, List.set_cons_succ]
            refine wpAnyH_ready (rs := [15]) (by kernel_rfl) (by simp) ?_
            refine AllReadyH.cons (o := { dst := none, op := Op.store 153 (Operand.tmp 12) (Operand.tmp 41), type := 0, pos := "ref.go:147", after := #[{ on := 14, ground := Ground.data }, { on := 13, ground := Ground.data }, { on := 0, ground := Ground.phase }, { on := 1, ground := Ground.phase }, { on := 2, ground := Ground.phase }, { on := 3, ground := Ground.phase }, { on := 4, ground := Ground.phase }, { on := 5, ground := Ground.phase }, { on := 6, ground := Ground.phase }, { on := 7, ground := Ground.phase }, { on := 8, ground := Ground.phase }, { on := 9, ground := Ground.phase }, { on := 10, ground := Ground.phase }, { on := 11, ground := Ground.phase }, { on := 12, ground := Ground.phase }, { on := 13, ground := Ground.phase }, { on := 14, ground := Ground.phase }], guard := none }) rfl (fun K' hK => ?_) AllReadyH.nil
            refine wp_store_row 153 (.tmp 12) (.tmp 41) (by rfl) gx #[.string sp, .int .u32 qi, .int .i64 (n : Int), .string ss, .slice (some ⟨gi, 0, none⟩) n n, .slice (some ⟨gt, 0, none⟩) n n] (by rfl) (by rfl) 153 #[.string ⟨#[]⟩, .int .u32 0, .int .i64 0, .string ⟨#[]⟩, .slice none 0 0, .slice none 0 0] hrow (by kernel_rfl) rfl (by simp [Value.oneCell']) ?_
            have kS := kp_setRow W3 gx #[.string sp, .int .u32 qi, .int .i64 (n : Int), .string ss, .slice (some ⟨gi, 0, none⟩) n n, .slice (some ⟨gt, 0, none⟩) n n]
            have hfin : (W3.setRow gx #[.string sp, .int .u32 qi, .int .i64 (n : Int), .string ss, .slice (some ⟨gi, 0, none⟩) n n, .slice (some ⟨gt, 0, none⟩) n n]).heap[gx]? = some (.cells #[.string sp, .int .u32 qi, .int .i64 (n : Int), .string ss, .slice (some ⟨gi, 0, none⟩) n n, .slice (some ⟨gt, 0, none⟩) n n] 153 (0, 0)) := setRow_heap _ _ _ _ _ _ hrow
            have kSw : Kp [] w3 (W3.setRow gx #[.string sp, .int .u32 qi, .int .i64 (n : Int), .string ss, .slice (some ⟨gi, 0, none⟩) n n, .slice (some ⟨gt, 0, none⟩) n n]) := hHeld.trans kS (fun m hm => by rw [List.mem_singleton] at hm; subst hm; exact .inr hlegx)
            replace oi := oi.kp kS (fun b hb hm => by rw [List.mem_singleton] at hm; subst hm; exact oi.not_at hrow (by decide) hb)
            replace ot := ot.kp kS (fun b hb hm => by rw [List.mem_singleton] at hm; subst hm; exact ot.not_at hrow (by decide) hb)
            (try go_simp)
            refine hK.out _ _ (kSw) (fun hHeld => ?_)
            clear hK K'
            try simp only [Act.put, List.setIfInBounds_toArray, List.set_cons_zero, List.set_cons_succ]
            refine wpAnyH_done (by kernel_rfl) ?_ _
            refine NoPanic.normal ?_
            have hw3 := HK3.out.size
            have hg1 : ∀ g, w3.heap.size ≤ g → ¬ (G g ∨ (Value.slice pa m pc).ownBlock = some g) := fun g hg hh => by
              rcases hh with hh | hh
              · have := HR.out.gb g hh; omega
              · have := (HOP3.out.lt hh).2; omega
            have HX := Lib.hid (xa_new (G1 := fun b => G b ∨ (Value.slice pa m pc).ownBlock = some b) (p := p) (s := q.sum) (id := q.id) (HK3.out.trans0 kSw) (Nat.le_trans hw3 hlegx) (by rw [HSP.out, HSS.out, HQI.out]; exact hfin) oi ot ⟨hn1, hn64⟩ (hg1 _ hlegi) (hg1 _ hlegt))
            have HKS := Lib.hid kSw
            have HNE : Hid (gx ≠ g9) := Lib.hid (by omega)
            clear kSw hfin oi ot hrow kS hHeld hg1
            go_wp2_with fail
            go_meet
            exact ⟨gx, gi, gt, rfl, HNE.out, Lib.hid ⟨HX.out, HKS.out⟩⟩
        · go_simp
          have kA : Kp [] W0 (W0.alloc (.cells (Array.replicate n (Value.slice none 0 0)) 27)) := (Kp.refl [] W0).alloc _
          have hlegt : w3.heap.size ≤ W0.heap.size := hHeld.size
          have ot := made_byts W0 n w.heap.size (Nat.le_trans HK3.out.size hHeld.size) hn64
          (try go_simp)
          refine hK.out _ _ (hHeld.trans0 kA) (fun hHeld => ?_)
          clear hK K'
          try simp only [Act.put, List.setIfInBounds_toArray, List.set_cons_zero, List.set_cons_succ]
          clear kA
          generalize W0.alloc (.cells (Array.replicate n (Value.slice none 0 0)) 27) = W1 at *
          generalize W0.heap.size = gt at *
          refine wpAnyH_ready (rs := [9, 14]) (by kernel_rfl) (by simp) ?_
          refine AllReadyH.cons (o := { dst := some 37, op := Op.makeSlice 151 (Operand.tmp 36) (Operand.tmp 36), type := 151, pos := "ref.go:147", after := #[{ on := 8, ground := Ground.data }, { on := 8, ground := Ground.data }], guard := none }) rfl (fun K' hK => ?_) (AllReadyH.cons (o := { dst := some 12, op := Op.alloc 153, type := 0, pos := "ref.go:147", after := #[], guard := none }) rfl (fun K' hK => ?_) AllReadyH.nil)
          · go_simp
            have kA : Kp [] W1 (W1.alloc (.cells (Array.replicate n (Value.bool false)) 4)) := (Kp.refl [] W1).alloc _
            have hlegi : w3.heap.size ≤ W1.heap.size := hHeld.size
            have hltgtgi : gt < W1.heap.size := (ot.lt rfl).2
            replace ot := ot.kp0 kA
            have oi := made_bool W1 n w.heap.size (Nat.le_trans HK3.out.size hHeld.size) hn64
            (try go_simp)
            refine hK.out _ _ (hHeld.trans0 kA) (fun hHeld => ?_)
            clear hK K'
            try simp only [Act.put, List.setIfInBounds_toArray, List.set_cons_zero, List.set_cons_succ]
            clear kA
            generalize W1.alloc (.cells (Array.replicate n (Value.bool false)) 4) = W2 at *
            generalize W1.heap.size = gi at *
            refine wpAnyH_take (i := 13) (oi := { dst := some 41, op := Op.build 153 #[(0, Operand.tmp 28), (1, Operand.tmp 30), (2, Operand.tmp 32), (3, Operand.tmp 34), (4, Operand.tmp 37), (5, Operand.tmp 40)], type := 153, pos := "ref.go:147", after := #[{ on := 0, ground := Ground.data }, { on := 2, ground := Ground.data }, { on := 4, ground := Ground.data }, { on := 6, ground := Ground.data }, { on := 9, ground := Ground.data }, { on := 12, ground := Ground.data }], guard := none }) (v := .agg #[.string sp, .int .u32 qi, .int .i64 (n : Int), .string ss, .slice (some ⟨gi, 0, none⟩) n n, .slice (some ⟨gt, 0, none⟩) n n]) rfl (by kernel_rfl) (by kernel_rfl) (by kernel_rfl) (fun _ _ _ h => h) (Or.inl ⟨by rfl, by intro w hSw; (try dsimp only at hSw); go_simp⟩) (by assumption) ?_
            try simp only [Act.put, List.setIfInBounds_toArray, List.set_cons_zero, List.set_cons_succ]
            refine wpAnyH_ready (rs := [14]) (by kernel_rfl) (by simp) ?_
            refine AllReadyH.cons (o := { dst := some 12, op := Op.alloc 153, type := 0, pos := "ref.go:147", after := #[], guard := none }) rfl (fun K' hK => ?_) AllReadyH.nil
            go_simp
            have kA : Kp [] W2 (W2.alloc (.cells #[.string ⟨#[]⟩, .int .u32 0, .int .i64 0, .string ⟨#[]⟩, .slice none 0 0, .slice none 0 0] 153)) := (Kp.refl [] W2).alloc _
            have hlegx : w3.heap.size ≤ W2.heap.size := hHeld.size
            have hltgtgx : gt < W2.heap.size := (ot.lt rfl).2
            replace ot := ot.kp0 kA
            have hltgigx : gi < W2.heap.size := (oi.lt rfl).2
            replace oi := oi.kp0 kA
            have hrow : (W2.alloc (.cells #[.string ⟨#[]⟩, .int .u32 0, .int .i64 0, .string ⟨#[]⟩, .slice none 0 0, .slice none 0 0] 153)).heap[W2.heap.size]? = some (.cells #[.string ⟨#[]⟩, .int .u32 0, .int .i64 0, .string ⟨#[]⟩, .slice none 0 0, .slice none 0 0] 153 (0, 0)) := heap_alloc_new W2 _
            (try go_simp)
            refine hK.out _ _ (hHeld.trans0 kA) (fun hHeld => ?_)
            clear hK K'
            try simp only [Act.put, List.setIfInBounds_toArray, List.set_cons_zero, List.set_cons_succ]
            clear kA
            generalize W2.alloc (.cells #[.string ⟨#[]⟩, .int .u32 0, .int .i64 0, .string ⟨#[]⟩, .slice none 0 0, .slice none 0 0] 153) = W3 at *
            generalize W2.heap.size = gx at *
            refine wpAnyH_ready (rs := [15]) (by kernel_rfl) (by simp) ?_
            refine AllReadyH.cons (o := { dst := none, op := Op.store 153 (Operand.tmp 12) (Operand.tmp 41), type := 0, pos := "ref.go:147", after := #[{ on := 14, ground := Ground.data }, { on := 13, ground := Ground.data }, { on := 0, ground := Ground.phase }, { on := 1, ground := Ground.phase }, { on := 2, ground := Ground.phase }, { on := 3, ground := Ground.phase }, { on := 4, ground := Ground.phase }, { on := 5, ground := Ground.phase }, { on := 6, ground := Ground.phase }, { on := 7, ground := Ground.phase }, { on := 8, ground := Ground.phase }, { on := 9, ground := Ground.phase }, { on := 10, ground := Ground.phase }, { on := 11, ground := Ground.phase }, { on := 12, ground := Ground.phase }, { on := 13, ground := Ground.phase }, { on := 14, ground := Ground.phase }], guard := none }) rfl (fun K' hK => ?_) AllReadyH.nil
            refine wp_store_row 153 (.tmp 12) (.tmp 41) (by rfl) gx #[.string sp, .int .u32 qi, .int .i64 (n : Int), .string ss, .slice (some ⟨gi, 0, none⟩) n n, .slice (some ⟨gt, 0, none⟩) n n] (by rfl) (by rfl) 153 #[.string ⟨#[]⟩, .int .u32 0, .int .i64 0, .string ⟨#[]⟩, .slice none 0 0, .slice none 0 0] hrow (by kernel_rfl) rfl (by simp [Value.oneCell']) ?_
            have kS := kp_setRow W3 gx #[.string sp, .int .u32 qi, .int .i64 (n : Int), .string ss, .slice (some ⟨gi, 0, none⟩) n n, .slice (some ⟨gt, 0, none⟩) n n]
            have hfin : (W3.setRow gx #[.string sp, .int .u32 qi, .int .i64 (n : Int), .string ss, .slice (some ⟨gi, 0, none⟩) n n, .slice (some ⟨gt, 0, none⟩) n n]).heap[gx]? = some (.cells #[.string sp, .int .u32 qi, .int .i64 (n : Int), .string ss, .slice (some ⟨gi, 0, none⟩) n n, .slice (some ⟨gt, 0, none⟩) n n] 153 (0, 0)) := setRow_heap _ _ _ _ _ _ hrow
            have kSw : Kp [] w3 (W3.setRow gx #[.string sp, .int .u32 qi, .int .i64 (n : Int), .string ss, .slice (some ⟨gi, 0, none⟩) n n, .slice (some ⟨gt, 0, none⟩) n n]) := hHeld.trans kS (fun m hm => by rw [List.mem_singleton] at hm; subst hm; exact .inr hlegx)
            replace oi := oi.kp kS (fun b hb hm => by rw [List.mem_singleton] at hm; subst hm; exact oi.not_at hrow (by decide) hb)
            replace ot := ot.kp kS (fun b hb hm => by rw [List.mem_singleton] at hm; subst hm; exact ot.not_at hrow (by decide) hb)
            (try go_simp)
            refine hK.out _ _ (kSw) (fun hHeld => ?_)
            clear hK K'
            try simp only [Act.put, List.setIfInBounds_toArray, List.set_cons_zero, List.set_cons_succ]
            refine wpAnyH_done (by kernel_rfl) ?_ _
            refine NoPanic.normal ?_
            have hw3 := HK3.out.size
            have hg1 : ∀ g, w3.heap.size ≤ g → ¬ (G g ∨ (Value.slice pa m pc).ownBlock = some g) := fun g hg hh => by
              rcases hh with hh | hh
              · have := HR.out.gb g hh; omega
              · have := (HOP3.out.lt hh).2; omega
            have HX := Lib.hid (xa_new (G1 := fun b => G b ∨ (Value.slice pa m pc).ownBlock = some b) (p := p) (s := q.sum) (id := q.id) (HK3.out.trans0 kSw) (Nat.le_trans hw3 hlegx) (by rw [HSP.out, HSS.out, HQI.out]; exact hfin) oi ot ⟨hn1, hn64⟩ (hg1 _ hlegi) (hg1 _ hlegt))
            have HKS := Lib.hid kSw
            have HNE : Hid (gx ≠ g9) := Lib.hid (by omega)
            clear kSw hfin oi ot hrow kS hHeld hg1
            go_wp2_with fail
            go_meet
            exact ⟨gx, gi, gt, rfl, HNE.out, Lib.hid ⟨HX.out, HKS.out⟩⟩
          · go_simp
            have kA : Kp [] W1 (W1.alloc (.cells #[.string ⟨#[]⟩, .int .u32 0, .int .i64 0, .string ⟨#[]⟩, .slice none 0 0, .slice none 0 0] 153)) := (Kp.refl [] W1).alloc _
            have hlegx : w3.heap.size ≤ W1.heap.size := hHeld.size
            have hltgtgx : gt < W1.heap.size := (ot.lt rfl).2
            replace ot := ot.kp0 kA
            have hrow : (W1.alloc (.cells #[.string ⟨#[]⟩, .int .u32 0, .int .i64 0, .string ⟨#[]⟩, .slice none 0 0, .slice none 0 0] 153)).heap[W1.heap.size]? = some (.cells #[.string ⟨#[]⟩, .int .u32 0, .int .i64 0, .string ⟨#[]⟩, .slice none 0 0, .slice none 0 0] 153 (0, 0)) := heap_alloc_new W1 _
            (try go_simp)
            refine hK.out _ _ (hHeld.trans0 kA) (fun hHeld => ?_)
            clear hK K'
            try simp only [Act.put, List.setIfInBounds_toArray, List.set_cons_zero, List.set_cons_succ]
            clear kA
            generalize W1.alloc (.cells #[.string ⟨#[]⟩, .int .u32 0, .int .i64 0, .string ⟨#[]⟩, .slice none 0 0, .slice none 0 0] 153) = W2 at *
            generalize W1.heap.size = gx at *
            refine wpAnyH_ready (rs := [9]) (by kernel_rfl) (by simp) ?_
            refine AllReadyH.cons (o := { dst := some 37, op := Op.makeSlice 151 (Operand.tmp 36) (Operand.tmp 36), type := 151, pos := "ref.go:147", after := #[{ on := 8, ground := Ground.data }, { on := 8, ground := Ground.data }], guard := none }) rfl (fun K' hK => ?_) AllReadyH.nil
            go_simp
            have kA : Kp [] W2 (W2.alloc (.cells (Array.replicate n (Value.bool false)) 4)) := (Kp.refl [] W2).alloc _
            have hlegi : w3.heap.size ≤ W2.heap.size := hHeld.size
            have hltgtgi : gt < W2.heap.size := (ot.lt rfl).2
            replace ot := ot.kp0 kA
            have hltgxgi : gx < W2.heap.size := (Array.getElem?_eq_some_iff.1 hrow).1
            replace hrow := kA.heap hrow (by simp)
            have oi := made_bool W2 n w.heap.size (Nat.le_trans HK3.out.size hHeld.size) hn64
            (try go_simp)
            refine hK.out _ _ (hHeld.trans0 kA) (fun hHeld => ?_)
            clear hK K'
            try simp only [Act.put, List.setIfInBounds_toArray, List.set_cons_zero, List.set_cons_succ]
            clear kA
            generalize W2.alloc (.cells (Array.replicate n (Value.bool false)) 4) = W3 at *
            generalize W2.heap.size = gi at *
            refine wpAnyH_take (i := 13) (oi := { dst := some 41, op := Op.build 153 #[(0, Operand.tmp 28), (1, Operand.tmp 30), (2, Operand.tmp 32), (3, Operand.tmp 34), (4, Operand.tmp 37), (5, Operand.tmp 40)], type := 153, pos := "ref.go:147", after := #[{ on := 0, ground := Ground.data }, { on := 2, ground := Ground.data }, { on := 4, ground := Ground.data }, { on := 6, ground := Ground.data }, { on := 9, ground := Ground.data }, { on := 12, ground := Ground.data }], guard := none }) (v := .agg #[.string sp, .int .u32 qi, .int .i64 (n : Int), .string ss, .slice (some ⟨gi, 0, none⟩) n n, .slice (some ⟨gt, 0, none⟩) n n]) rfl (by kernel_rfl) (by kernel_rfl) (by kernel_rfl) (fun _ _ _ h => h) (Or.inl ⟨by rfl, by intro w hSw; (try dsimp only at hSw); go_simp⟩) (by assumption) ?_
            try simp only [Act.put, List.setIfInBounds_toArray, List.set_cons_zero, List.set_cons_succ]
            refine wpAnyH_ready (rs := [15]) (by kernel_rfl) (by simp) ?_
            refine AllReadyH.cons (o := { dst := none, op := Op.store 153 (Operand.tmp 12) (Operand.tmp 41), type := 0, pos := "ref.go:147", after := #[{ on := 14, ground := Ground.data }, { on := 13, ground := Ground.data }, { on := 0, ground := Ground.phase }, { on := 1, ground := Ground.phase }, { on := 2, ground := Ground.phase }, { on := 3, ground := Ground.phase }, { on := 4, ground := Ground.phase }, { on := 5, ground := Ground.phase }, { on := 6, ground := Ground.phase }, { on := 7, ground := Ground.phase }, { on := 8, ground := Ground.phase }, { on := 9, ground := Ground.phase }, { on := 10, ground := Ground.phase }, { on := 11, ground := Ground.phase }, { on := 12, ground := Ground.phase }, { on := 13, ground := Ground.phase }, { on := 14, ground := Ground.phase }], guard := none }) rfl (fun K' hK => ?_) AllReadyH.nil
            refine wp_store_row 153 (.tmp 12) (.tmp 41) (by rfl) gx #[.string sp, .int .u32 qi, .int .i64 (n : Int), .string ss, .slice (some ⟨gi, 0, none⟩) n n, .slice (some ⟨gt, 0, none⟩) n n] (by rfl) (by rfl) 153 #[.string ⟨#[]⟩, .int .u32 0, .int .i64 0, .string ⟨#[]⟩, .slice none 0 0, .slice none 0 0] hrow (by kernel_rfl) rfl (by simp [Value.oneCell']) ?_
            have kS := kp_setRow W3 gx #[.string sp, .int .u32 qi, .int .i64 (n : Int), .string ss, .slice (some ⟨gi, 0, none⟩) n n, .slice (some ⟨gt, 0, none⟩) n n]
            have hfin : (W3.setRow gx #[.string sp, .int .u32 qi, .int .i64 (n : Int), .string ss, .slice (some ⟨gi, 0, none⟩) n n, .slice (some ⟨gt, 0, none⟩) n n]).heap[gx]? = some (.cells #[.string sp, .int .u32 qi, .int .i64 (n : Int), .string ss, .slice (some ⟨gi, 0, none⟩) n n, .slice (some ⟨gt, 0, none⟩) n n] 153 (0, 0)) := setRow_heap _ _ _ _ _ _ hrow
            have kSw : Kp [] w3 (W3.setRow gx #[.string sp, .int .u32 qi, .int .i64 (n : Int), .string ss, .slice (some ⟨gi, 0, none⟩) n n, .slice (some ⟨gt, 0, none⟩) n n]) := hHeld.trans kS (fun m hm => by rw [List.mem_singleton] at hm; subst hm; exact .inr hlegx)
            replace oi := oi.kp kS (fun b hb hm => by rw [List.mem_singleton] at hm; subst hm; exact oi.not_at hrow (by decide) hb)
            replace ot := ot.kp kS (fun b hb hm => by rw [List.mem_singleton] at hm; subst hm; exact ot.not_at hrow (by decide) hb)
            (try go_simp)
            refine hK.out _ _ (kSw) (fun hHeld => ?_)
            clear hK K'
            try simp only [Act.put, List.setIfInBounds_toArray, List.set_cons_zero, List.set_cons_succ]
            refine wpAnyH_done (by kernel_rfl) ?_ _
            refine NoPanic.normal ?_
            have hw3 := HK3.out.size
            have hg1 : ∀ g, w3.heap.size ≤ g → ¬ (G g ∨ (Value.slice pa m pc).ownBlock = some g) := fun g hg hh => by
              rcases hh with hh | hh
              · have := HR.out.gb g hh; omega
              · have := (HOP3.out.lt hh).2; omega
            have HX := Lib.hid (xa_new (G1 := fun b => G b ∨ (Value.slice pa m pc).ownBlock = some b) (p := p) (s := q.sum) (id := q.id) (HK3.out.trans0 kSw) (Nat.le_trans hw3 hlegx) (by rw [HSP.out, HSS.out, HQI.out]; exact hfin) oi ot ⟨hn1, hn64⟩ (hg1 _ hlegi) (hg1 _ hlegt))
            have HKS := Lib.hid kSw
            have HNE : Hid (gx ≠ g9) := Lib.hid (by omega)
            clear kSw hfin oi ot hrow kS hHeld hg1
            go_wp2_with fail
            go_meet
            exact ⟨gx, gi, gt, rfl, HNE.out, Lib.hid ⟨HX.out, HKS.out⟩⟩
        · go_simp
          have kA : Kp [] W0 (W0.alloc (.cells #[.string ⟨#[]⟩, .int .u32 0, .int .i64 0, .string ⟨#[]⟩, .slice none 0 0, .slice none 0 0] 153)) := (Kp.refl [] W0).alloc _
          have hlegx : w3.heap.size ≤ W0.heap.size := hHeld.size
          have hrow : (W0.alloc (.cells #[.string ⟨#[]⟩, .int .u32 0, .int .i64 0, .string ⟨#[]⟩, .slice none 0 0, .slice none 0 0] 153)).heap[W0.heap.size]? = some (.cells #[.string ⟨#[]⟩, .int .u32 0, .int .i64 0, .string ⟨#[]⟩, .slice none 0 0, .slice none 0 0] 153 (0, 0)) := heap_alloc_new W0 _
          (try go_simp)
          refine hK.out _ _ (hHeld.trans0 kA) (fun hHeld => ?_)
          clear hK K'
          try simp only [Act.put, List.setIfInBounds_toArray, List.set_cons_zero, List.set_cons_succ]
          clear kA
          generalize W0.alloc (.cells #[.string ⟨#[]⟩, .int .u32 0, .int .i64 0, .string ⟨#[]⟩, .slice none 0 0, .slice none 0 0] 153) = W1 at *
          generalize W0.heap.size = gx at *
          refine wpAnyH_ready (rs := [9, 12]) (by kernel_rfl) (by simp) ?_
          refine AllReadyH.cons (o := { dst := some 37, op := Op.makeSlice 151 (Operand.tmp 36) (Operand.tmp 36), type := 151, pos := "ref.go:147", after := #[{ on := 8, ground := Ground.data }, { on := 8, ground := Ground.data }], guard := none }) rfl (fun K' hK => ?_) (AllReadyH.cons (o := { dst := some 40, op := Op.makeSlice 50 (Operand.tmp 39) (Operand.tmp 39), type := 50, pos := "ref.go:147", after := #[{ on := 11, ground := Ground.data }, { on := 11, ground := Ground.data }], guard := none }) rfl (fun K' hK => ?_) AllReadyH.nil)
          · go_simp
            have kA : Kp [] W1 (W1.alloc (.cells (Array.replicate n (Value.bool false)) 4)) := (Kp.refl [] W1).alloc _
            have hlegi : w3.heap.size ≤ W1.heap.size := hHeld.size
            have hltgxgi : gx < W1.heap.size := (Array.getElem?_eq_some_iff.1 hrow).1
            replace hrow := kA.heap hrow (by simp)
            have oi := made_bool W1 n w.heap.size (Nat.le_trans HK3.out.size hHeld.size) hn64
            (try go_simp)
            refine hK.out _ _ (hHeld.trans0 kA) (fun hHeld => ?_)
            clear hK K'
            try simp only [Act.put, List.setIfInBounds_toArray, List.set_cons_zero, List.set_cons_succ]
            clear kA
            generalize W1.alloc (.cells (Array.replicate n (Value.bool false)) 4) = W2 at *
            generalize W1.heap.size = gi at *
            refine wpAnyH_ready (rs := [12]) (by kernel_rfl) (by simp) ?_
            refine AllReadyH.cons (o := { dst := some 40, op := Op.makeSlice 50 (Operand.tmp 39) (Operand.tmp 39), type := 50, pos := "ref.go:147", after := #[{ on := 11, ground := Ground.data }, { on := 11, ground := Ground.data }], guard := none }) rfl (fun K' hK => ?_) AllReadyH.nil
            go_simp
            have kA : Kp [] W2 (W2.alloc (.cells (Array.replicate n (Value.slice none 0 0)) 27)) := (Kp.refl [] W2).alloc _
            have hlegt : w3.heap.size ≤ W2.heap.size := hHeld.size
            have hltgxgt : gx < W2.heap.size := (Array.getElem?_eq_some_iff.1 hrow).1
            replace hrow := kA.heap hrow (by simp)
            have hltgigt : gi < W2.heap.size := (oi.lt rfl).2
            replace oi := oi.kp0 kA
            have ot := made_byts W2 n w.heap.size (Nat.le_trans HK3.out.size hHeld.size) hn64
            (try go_simp)
            refine hK.out _ _ (hHeld.trans0 kA) (fun hHeld => ?_)
            clear hK K'
            try simp only [Act.put, List.setIfInBounds_toArray, List.set_cons_zero, List.set_cons_succ]
            clear kA
            generalize W2.alloc (.cells (Array.replicate n (Value.slice none 0 0)) 27) = W3 at *
            generalize W2.heap.size = gt at *
            refine wpAnyH_take (i := 13) (oi := { dst := some 41, op := Op.build 153 #[(0, Operand.tmp 28), (1, Operand.tmp 30), (2, Operand.tmp 32), (3, Operand.tmp 34), (4, Operand.tmp 37), (5, Operand.tmp 40)], type := 153, pos := "ref.go:147", after := #[{ on := 0, ground := Ground.data }, { on := 2, ground := Ground.data }, { on := 4, ground := Ground.data }, { on := 6, ground := Ground.data }, { on := 9, ground := Ground.data }, { on := 12, ground := Ground.data }], guard := none }) (v := .agg #[.string sp, .int .u32 qi, .int .i64 (n : Int), .string ss, .slice (some ⟨gi, 0, none⟩) n n, .slice (some ⟨gt, 0, none⟩) n n]) rfl (by kernel_rfl) (by kernel_rfl) (by kernel_rfl) (fun _ _ _ h => h) (Or.inl ⟨by rfl, by intro w hSw; (try dsimp only at hSw); go_simp⟩) (by assumption) ?_
            try simp only [Act.put, List.setIfInBounds_toArray, List.set_cons_zero, List.set_cons_succ]
            refine wpAnyH_ready (rs := [15]) (by kernel_rfl) (by simp) ?_
            refine AllReadyH.cons (o := { dst := none, op := Op.store 153 (Operand.tmp 12) (Operand.tmp 41), type := 0, pos := "ref.go:147", after := #[{ on := 14, ground := Ground.data }, { on := 13, ground := Ground.data }, { on := 0, ground := Ground.phase }, { on := 1, ground := Ground.phase }, { on := 2, ground := Ground.phase }, { on := 3, ground := Ground.phase }, { on := 4, ground := Ground.phase }, { on := 5, ground := Ground.phase }, { on := 6, ground := Ground.phase }, { on := 7, ground := Ground.phase }, { on := 8, ground := Ground.phase }, { on := 9, ground := Ground.phase }, { on := 10, ground := Ground.phase }, { on := 11, ground := Ground.phase }, { on := 12, ground := Ground.phase }, { on := 13, ground := Ground.phase }, { on := 14, ground := Ground.phase }], guard := none }) rfl (fun K' hK => ?_) AllReadyH.nil
            refine wp_store_row 153 (.tmp 12) (.tmp 41) (by rfl) gx #[.string sp, .int .u32 qi, .int .i64 (n : Int), .string ss, .slice (some ⟨gi, 0, none⟩) n n, .slice (some ⟨gt, 0, none⟩) n n] (by rfl) (by rfl) 153 #[.string ⟨#[]⟩, .int .u32 0, .int .i64 0, .string ⟨#[]⟩, .slice none 0 0, .slice none 0 0] hrow (by kernel_rfl) rfl (by simp [Value.oneCell']) ?_
            have kS := kp_setRow W3 gx #[.string sp, .int .u32 qi, .int .i64 (n : Int), .string ss, .slice (some ⟨gi, 0, none⟩) n n, .slice (some ⟨gt, 0, none⟩) n n]
            have hfin : (W3.setRow gx #[.string sp, .int .u32 qi, .int .i64 (n : Int), .string ss, .slice (some ⟨gi, 0, none⟩) n n, .slice (some ⟨gt, 0, none⟩) n n]).heap[gx]? = some (.cells #[.string sp, .int .u32 qi, .int .i64 (n : Int), .string ss, .slice (some ⟨gi, 0, none⟩) n n, .slice (some ⟨gt, 0, none⟩) n n] 153 (0, 0)) := setRow_heap _ _ _ _ _ _ hrow
            have kSw : Kp [] w3 (W3.setRow gx #[.string sp, .int .u32 qi, .int .i64 (n : Int), .string ss, .slice (some ⟨gi, 0, none⟩) n n, .slice (some ⟨gt, 0, none⟩) n n]) := hHeld.trans kS (fun m hm => by rw [List.mem_singleton] at hm; subst hm; exact .inr hlegx)
            replace oi := oi.kp kS (fun b hb hm => by rw [List.mem_singleton] at hm; subst hm; exact oi.not_at hrow (by decide) hb)
            replace ot := ot.kp kS (fun b hb hm => by rw [List.mem_singleton] at hm; subst hm; exact ot.not_at hrow (by decide) hb)
            (try go_simp)
            refine hK.out _ _ (kSw) (fun hHeld => ?_)
            clear hK K'
            try simp only [Act.put, List.setIfInBounds_toArray, List.set_cons_zero, List.set_cons_succ]
            refine wpAnyH_done (by kernel_rfl) ?_ _
            refine NoPanic.normal ?_
            have hw3 := HK3.out.size
            have hg1 : ∀ g, w3.heap.size ≤ g → ¬ (G g ∨ (Value.slice pa m pc).ownBlock = some g) := fun g hg hh => by
              rcases hh with hh | hh
              · have := HR.out.gb g hh; omega
              · have := (HOP3.out.lt hh).2; omega
            have HX := Lib.hid (xa_new (G1 := fun b => G b ∨ (Value.slice pa m pc).ownBlock = some b) (p := p) (s := q.sum) (id := q.id) (HK3.out.trans0 kSw) (Nat.le_trans hw3 hlegx) (by rw [HSP.out, HSS.out, HQI.out]; exact hfin) oi ot ⟨hn1, hn64⟩ (hg1 _ hlegi) (hg1 _ hlegt))
            have HKS := Lib.hid kSw
            have HNE : Hid (gx ≠ g9) := Lib.hid (by omega)
            clear kSw hfin oi ot hrow kS hHeld hg1
            go_wp2_with fail
            go_meet
            exact ⟨gx, gi, gt, rfl, HNE.out, Lib.hid ⟨HX.out, HKS.out⟩⟩
          · go_simp
            have kA : Kp [] W1 (W1.alloc (.cells (Array.replicate n (Value.slice none 0 0)) 27)) := (Kp.refl [] W1).alloc _
            have hlegt : w3.heap.size ≤ W1.heap.size := hHeld.size
            have hltgxgt : gx < W1.heap.size := (Array.getElem?_eq_some_iff.1 hrow).1
            replace hrow := kA.heap hrow (by simp)
            have ot := made_byts W1 n w.heap.size (Nat.le_trans HK3.out.size hHeld.size) hn64
            (try go_simp)
            refine hK.out _ _ (hHeld.trans0 kA) (fun hHeld => ?_)
            clear hK K'
            try simp only [Act.put, List.setIfInBounds_toArray, List.set_cons_zero, List.set_cons_succ]
            clear kA
            generalize W1.alloc (.cells (Array.replicate n (Value.slice none 0 0)) 27) = W2 at *
            generalize W1.heap.size = gt at *
            refine wpAnyH_ready (rs := [9]) (by kernel_rfl) (by simp) ?_
            refine AllReadyH.cons (o := { dst := some 37, op := Op.makeSlice 151 (Operand.tmp 36) (Operand.tmp 36), type := 151, pos := "ref.go:147", after := #[{ on := 8, ground := Ground.data }, { on := 8, ground := Ground.data }], guard := none }) rfl (fun K' hK => ?_) AllReadyH.nil
            go_simp
            have kA : Kp [] W2 (W2.alloc (.cells (Array.replicate n (Value.bool false)) 4)) := (Kp.refl [] W2).alloc _
            have hlegi : w3.heap.size ≤ W2.heap.size := hHeld.size
            have hltgxgi : gx < W2.heap.size := (Array.getElem?_eq_some_iff.1 hrow).1
            replace hrow := kA.heap hrow (by simp)
            have hltgtgi : gt < W2.heap.size := (ot.lt rfl).2
            replace ot := ot.kp0 kA
            have oi := made_bool W2 n w.heap.size (Nat.le_trans HK3.out.size hHeld.size) hn64
            (try go_simp)
            refine hK.out _ _ (hHeld.trans0 kA) (fun hHeld => ?_)
            clear hK K'
            try simp only [Act.put, List.setIfInBounds_toArray, List.set_cons_zero, List.set_cons_succ]
            clear kA
            generalize W2.alloc (.cells (Array.replicate n (Value.bool false)) 4) = W3 at *
            generalize W2.heap.size = gi at *
            refine wpAnyH_take (i := 13) (oi := { dst := some 41, op := Op.build 153 #[(0, Operand.tmp 28), (1, Operand.tmp 30), (2, Operand.tmp 32), (3, Operand.tmp 34), (4, Operand.tmp 37), (5, Operand.tmp 40)], type := 153, pos := "ref.go:147", after := #[{ on := 0, ground := Ground.data }, { on := 2, ground := Ground.data }, { on := 4, ground := Ground.data }, { on := 6, ground := Ground.data }, { on := 9, ground := Ground.data }, { on := 12, ground := Ground.data }], guard := none }) (v := .agg #[.string sp, .int .u32 qi, .int .i64 (n : Int), .string ss, .slice (some ⟨gi, 0, none⟩) n n, .slice (some ⟨gt, 0, none⟩) n n]) rfl (by kernel_rfl) (by kernel_rfl) (by kernel_rfl) (fun _ _ _ h => h) (Or.inl ⟨by rfl, by intro w hSw; (try dsimp only at hSw); go_simp⟩) (by assumption) ?_
            try simp only [Act.put, List.setIfInBounds_toArray, List.set_cons_zero, List.set_cons_succ]
            refine wpAnyH_ready (rs := [15]) (by kernel_rfl) (by simp) ?_
            refine AllReadyH.cons (o := { dst := none, op := Op.store 153 (Operand.tmp 12) (Operand.tmp 41), type := 0, pos := "ref.go:147", after := #[{ on := 14, ground := Ground.data }, { on := 13, ground := Ground.data }, { on := 0, ground := Ground.phase }, { on := 1, ground := Ground.phase }, { on := 2, ground := Ground.phase }, { on := 3, ground := Ground.phase }, { on := 4, ground := Ground.phase }, { on := 5, ground := Ground.phase }, { on := 6, ground := Ground.phase }, { on := 7, ground := Ground.phase }, { on := 8, ground := Ground.phase }, { on := 9, ground := Ground.phase }, { on := 10, ground := Ground.phase }, { on := 11, ground := Ground.phase }, { on := 12, ground := Ground.phase }, { on := 13, ground := Ground.phase }, { on := 14, ground := Ground.phase }], guard := none }) rfl (fun K' hK => ?_) AllReadyH.nil
            refine wp_store_row 153 (.tmp 12) (.tmp 41) (by rfl) gx #[.string sp, .int .u32 qi, .int .i64 (n : Int), .string ss, .slice (some ⟨gi, 0, none⟩) n n, .slice (some ⟨gt, 0, none⟩) n n] (by rfl) (by rfl) 153 #[.string ⟨#[]⟩, .int .u32 0, .int .i64 0, .string ⟨#[]⟩, .slice none 0 0, .slice none 0 0] hrow (by kernel_rfl) rfl (by simp [Value.oneCell']) ?_
            have kS := kp_setRow W3 gx #[.string sp, .int .u32 qi, .int .i64 (n : Int), .string ss, .slice (some ⟨gi, 0, none⟩) n n, .slice (some ⟨gt, 0, none⟩) n n]
            have hfin : (W3.setRow gx #[.string sp, .int .u32 qi, .int .i64 (n : Int), .string ss, .slice (some ⟨gi, 0, none⟩) n n, .slice (some ⟨gt, 0, none⟩) n n]).heap[gx]? = some (.cells #[.string sp, .int .u32 qi, .int .i64 (n : Int), .string ss, .slice (some ⟨gi, 0, none⟩) n n, .slice (some ⟨gt, 0, none⟩) n n] 153 (0, 0)) := setRow_heap _ _ _ _ _ _ hrow
            have kSw : Kp [] w3 (W3.setRow gx #[.string sp, .int .u32 qi, .int .i64 (n : Int), .string ss, .slice (some ⟨gi, 0, none⟩) n n, .slice (some ⟨gt, 0, none⟩) n n]) := hHeld.trans kS (fun m hm => by rw [List.mem_singleton] at hm; subst hm; exact .inr hlegx)
            replace oi := oi.kp kS (fun b hb hm => by rw [List.mem_singleton] at hm; subst hm; exact oi.not_at hrow (by decide) hb)
            replace ot := ot.kp kS (fun b hb hm => by rw [List.mem_singleton] at hm; subst hm; exact ot.not_at hrow (by decide) hb)
            (try go_simp)
            refine hK.out _ _ (kSw) (fun hHeld => ?_)
            clear hK K'
            try simp only [Act.put, List.setIfInBounds_toArray, List.set_cons_zero, List.set_cons_succ]
            refine wpAnyH_done (by kernel_rfl) ?_ _
            refine NoPanic.normal ?_
            have hw3 := HK3.out.size
            have hg1 : ∀ g, w3.heap.size ≤ g → ¬ (G g ∨ (Value.slice pa m pc).ownBlock = some g) := fun g hg hh => by
              rcases hh with hh | hh
              · have := HR.out.gb g hh; omega
              · have := (HOP3.out.lt hh).2; omega
            have HX := Lib.hid (xa_new (G1 := fun b => G b ∨ (Value.slice pa m pc).ownBlock = some b) (p := p) (s := q.sum) (id := q.id) (HK3.out.trans0 kSw) (Nat.le_trans hw3 hlegx) (by rw [HSP.out, HSS.out, HQI.out]; exact hfin) oi ot ⟨hn1, hn64⟩ (hg1 _ hlegi) (hg1 _ hlegt))
            have HKS := Lib.hid kSw
            have HNE : Hid (gx ≠ g9) := Lib.hid (by omega)
            clear kSw hfin oi ot hrow kS hHeld hg1
            go_wp2_with fail
            go_meet
            exact ⟨gx, gi, gt, rfl, HNE.out, Lib.hid ⟨HX.out, HKS.out⟩⟩
      case rest =>
        obtain ⟨gx, gi, gt, rfl, hne9, HXC⟩ := hcut
        have HX := Lib.hid HXC.out.1
        have HK4 := Lib.hid HXC.out.2
        clear HXC
        have HP9c : Hid (wc.heap[g9]? = some (.cells #[.int .u32 qi, .int .i64 (n : Int), .int .i64 (x : Int), .string ss, .slice pa m pc] 147 (0, 0))) := Lib.hid (HK4.out.heap HP9.out (by simp))
        have HOPc := Lib.hid (HOP3.out.kp0 HK4.out)
        have HRc := Lib.hid (HR.out.kp0 (HK3.out.trans0 HK4.out))
        have HNE9 := Lib.hid hne9
        clear HP9 HOP3 hne9
        obtain ⟨wb, rfl⟩ : ∃ wb : World, wb = wc := ⟨_, rfl⟩
        go_upto_if 43 with fail
        go_cut [12] (fun xv w' => ∃ (gi gt ci ct : Nat) (ps : List (Option (List UInt8))) (vals : List Value), xv = .pointer (some ⟨gx, 0, none⟩) ∧ Hid (XA w w' (fun b => G b ∨ (Value.slice pa m pc).ownBlock = some b) gx gi gt ci ct n p q.sum q.id ps vals ∧ Kp [gx] wb w' ∧ AddJ most T p q ix ps ∧ ps[x]? = some none))
        case first =>
          rcases HIX.out with ⟨hi1, hi2⟩ | ⟨i, e, hi1, hi2, hi3, hi4⟩
          · have HI2 := Lib.hid hi2
            subst hi1
            obtain ⟨la, lc, hlv⟩ := HRc.out.form
            have hc0 := HRc.out.c0
            have hc1 := HRc.out.c1
            rw [hlv] at hc0
            obtain ⟨nT, hnT⟩ : ∃ nT, T.length = nT := ⟨_, rfl⟩
            have HNT := Lib.hid hnT
            rw [hnT] at hc0
            have hd0 : ∀ n, (wb.drewN n).cell? ⟨r, 0, none⟩ = some (.slice la nT lc) := fun n => hc0
            have hd1 : ∀ n, (wb.drewN n).cell? ⟨r, 1, none⟩ = some (.int .i64 most) := fun n => hc1
            clear hi2 hlv hnT hc0 hc1
            by_cases hfull : most ≤ (nT : Int)
            · have HA : Hid (addE mk most T p b = ((0, false, 120), T)) := Lib.hid (by
                unfold addE
                rw [if_neg (by simp [HPE.out]), HBQ.out]
                simp only
                rw [HI2.out]
                simp only
                rw [if_pos (by rw [HNT.out]; exact hfull)])
              go_upto_region 14 with fail
              go_quiet (fail)
              go_wp2_with fail
              go_ret3
              rw [HA.out]
              exact ⟨rfl, AddRes.same HR.out (HX.out.k.drewN nq)⟩
            · have HFU := Lib.hid hfull
              go_upto_region 14 with fail
              go_quiet (fail)
              go_wp2_with fail
              go_meet
              exact ⟨gi, gt, n, n, List.replicate n none, List.replicate n (.slice none 0 0), rfl, Lib.hid ⟨HX.out.kp ((Kp.refl [] wb).drewN nq), (Kp.refl [gx] wb).drewN nq, .inr ⟨rfl, HI2.out, by rw [HNT.out]; have := HFU.out; omega, by rw [HNX.out.2.2.2.1]⟩, by rw [List.getElem?_replicate, if_pos HNX.out.2.2.1]⟩⟩
          · have HI2 := Lib.hid hi2
            have HI3 := Lib.hid hi3
            have HI4 := Lib.hid hi4
            subst hi1
            obtain ⟨lb, lc, iv, tv, hlv, _, hrg, _, hre, _, _⟩ := HRc.out.at hi2
            have hc0 := HRc.out.c0
            rw [hlv] at hc0
            have hil := (List.getElem?_eq_some_iff.1 hi2).1
            obtain ⟨nT, hnT⟩ : ∃ nT, T.length = nT := ⟨_, rfl⟩
            rw [hnT] at hc0 hil
            have hnT64 : nT ≤ 64 := by rw [← hnT]; exact HTL.out
            have hke1 : e.peer = p := congrArg Prod.fst hi3
            have hke2 : e.id = q.id := congrArg Prod.snd hi3
            obtain ⟨es, hes⟩ : ∃ es, strOf e.sum = es := ⟨_, rfl⟩
            have HES := Lib.hid hes
            obtain ⟨k, hk⟩ : ∃ k, e.parts.length = k := ⟨_, rfl⟩
            have HEK := Lib.hid hk
            have HRG : Hid (wb.rangeAt lb (i * 6) [.string sp, .int .u32 qi, .int .i64 (k : Int), .string es, iv, tv]) := Lib.hid (by have := hrg; unfold ecl at this; rw [hke1, hke2, HSP.out, HQI.out, hes, hk] at this; exact this)
            have HRE := Lib.hid hre
            have HTW : Hid (Calls Tryd.prog 77 #[.agg #[.string sp, .int .u32 qi, .int .i64 (k : Int), .string es, iv, tv]] wb fun en w' => ∃ (gi gt ci ct : Nat) (vals : List Value), en = .returned (.agg #[.string sp, .int .u32 qi, .int .i64 (k : Int), .string es, .slice (some ⟨gi, 0, none⟩) k ci, .slice (some ⟨gt, 0, none⟩) k ct]) ∧
                Own w' wb.heap.size 4 (.slice (some ⟨gi, 0, none⟩) k ci) (bls e.parts) ∧ Own w' wb.heap.size 27 (.slice (some ⟨gt, 0, none⟩) k ct) vals ∧ vals.length = k ∧ (∀ u ∈ vals, u.oneCell' = true) ∧ (∀ (j : Nat) (x : Value) (c : List UInt8), vals[j]? = some x → (cts e.parts)[j]? = some c → Rd wb x (bv c) ∧ ∀ b, x.ownBlock = some b → G b) ∧ Kp [] wb w') := Lib.hid (by have := rtwin_any sp es qi (k : Int) G e.parts iv tv wb hre; rw [hk] at this; exact this)
            have HKP : Hid (1 ≤ k ∧ k ≤ 64) := Lib.hid (by rw [← hk]; exact hre.n1)
            have hilI : (i : Int) < (nT : Int) := by omega
            have hi0 : (0 : Int) ≤ (i : Int) := by omega
            have hk64 := HKP.out.2
            clear hi2 hi3 hi4 hlv hrg hre hnT hke1 hke2 hes hk
            go_upto_region 10 with (first
              | ((with_reducible refine wpList_load_mid ?a1 153 (.tmp 49) ?a2 lb (i * 6) ?a3 [.string sp, .int .u32 qi, .int .i64 (k : Int), .string es, iv, tv] ?a4 ?a5 ?a6 ?a7 ?a8 ?a9); (case a1 => rfl); (case a2 => rfl); (case a3 => rfl); (case a5 => exact HRG.out); (case a6 => exact Tryd.underlying153); (case a7 => rfl); (case a8 => kernel_rfl))
              | (go_at_call 77; go_must (refine HTW.out.mono ?_; rintro en w5 ⟨hi5, ht5, ci5, ct5, vals5, rfl, hoi5, hot5, hvl5, hv15, hvc5, hk5⟩; have HOI5 := Lib.hid hoi5; have HOT5 := Lib.hid hot5; have HVL5 := Lib.hid hvl5; have HV15 := Lib.hid hv15; have HVC5 := Lib.hid hvc5; have HK5 := Lib.hid hk5; have HXR5 := Lib.hid (HX.out.kp hk5).row; clear hoi5 hot5 hvl5 hv15 hvc5 hk5; rw [HSP.out, HSS.out, HQI.out] at HXR5))
              | ((with_reducible refine wpList_store_row ?b1 153 (.tmp 12) (.tmp 51) ?b2 gx #[.string sp, .int .u32 qi, .int .i64 (k : Int), .string es, .slice (some ⟨hi5, 0, none⟩) k ci5, .slice (some ⟨ht5, 0, none⟩) k ct5] ?b3 ?b4 153 #[.string sp, .int .u32 qi, .int .i64 (n : Int), .string ss, .slice (some ⟨gi, 0, none⟩) n n, .slice (some ⟨gt, 0, none⟩) n n] ?b5 ?b6 ?b7 ?b8 ?b9); (case b1 => rfl); (case b2 => rfl); (case b3 => rfl); (case b4 => rfl); (case b5 => exact HXR5.out); (case b6 => kernel_rfl); (case b7 => rfl); (case b8 => simp [Value.oneCell']))
              | fail)
            obtain ⟨w6, hw6⟩ : ∃ w6, w5.setRow gx #[.string sp, .int .u32 qi, .int .i64 (k : Int), .string es, .slice (some ⟨hi5, 0, none⟩) k ci5, .slice (some ⟨ht5, 0, none⟩) k ct5] = w6 := ⟨_, rfl⟩
            have k56 : Kp [gx] w5 w6 := by rw [← hw6]; exact kp_setRow _ _ _
            have HROW : Hid (w6.heap[gx]? = some (.cells #[.string sp, .int .u32 qi, .int .i64 (k : Int), .string es, .slice (some ⟨hi5, 0, none⟩) k ci5, .slice (some ⟨ht5, 0, none⟩) k ct5] 153 (0, 0))) := Lib.hid (by rw [← hw6]; exact setRow_heap _ _ _ _ _ _ HXR5.out)
            have HOI6 := Lib.hid (HOI5.out.kp k56 (fun b hb hm => by rw [List.mem_singleton] at hm; subst hm; exact HOI5.out.not_at HXR5.out (by decide) hb))
            have HOT6 := Lib.hid (HOT5.out.kp k56 (fun b hb hm => by rw [List.mem_singleton] at hm; subst hm; exact HOT5.out.not_at HXR5.out (by decide) hb))
            have HKX : Hid (Kp [gx] wb w6) := Lib.hid ((HK5.out.mono (by simp)).trans k56 (fun m hm => .inl hm))
            have HKW : Hid (Kp [] w w6) := Lib.hid (HX.out.k.trans HKX.out (fun m hm => by rw [List.mem_singleton] at hm; subst hm; exact .inr HX.out.gx))
            have HP96 : Hid (w6.heap[g9]? = some (.cells #[.int .u32 qi, .int .i64 (n : Int), .int .i64 (x : Int), .string ss, .slice pa m pc] 147 (0, 0))) := Lib.hid (HKX.out.heap HP9c.out (by rw [List.mem_singleton]; exact HNE9.out.symm))
            rw [hw6]
            clear hw6 k56 HXR5 HK5 HOI5 HOT5 hc0
            have hx2 : w6.cell? ⟨gx, 2, none⟩ = some (.int .i64 (k : Int)) := by rw [cell_of_row _ _ 2 _ _ _ HROW.out]; rfl
            have hx3 : w6.cell? ⟨gx, 3, none⟩ = some (.string es) := by rw [cell_of_row _ _ 3 _ _ _ HROW.out]; rfl
            have hx4 : w6.cell? ⟨gx, 4, none⟩ = some (.slice (some ⟨hi5, 0, none⟩) k ci5) := by rw [cell_of_row _ _ 4 _ _ _ HROW.out]; rfl
            have hp1 : w6.cell? ⟨g9, 1, none⟩ = some (.int .i64 (n : Int)) := by rw [cell_of_row _ _ 1 _ _ _ HP96.out]; rfl
            have hp2 : w6.cell? ⟨g9, 2, none⟩ = some (.int .i64 (x : Int)) := by rw [cell_of_row _ _ 2 _ _ _ HP96.out]; rfl
            have hp3 : w6.cell? ⟨g9, 3, none⟩ = some (.string ss) := by rw [cell_of_row _ _ 3 _ _ _ HP96.out]; rfl
            have hbq : (es.toList == ss.toList) = decide (e.sum = q.sum) := by rw [← HES.out, ← HSS.out]; exact strOf_beq _ _
            have HAE : Hid (addE mk most T p b = if (e.parts.length : Int) ≠ q.cnt ∨ e.sum ≠ q.sum then ((0, false, 260), T) else if e.parts[q.idx.toNat]? ≠ some none then ((0, false, 151), T) else addE mk most T p b) := Lib.hid (by
              by_cases z1 : (e.parts.length : Int) ≠ q.cnt ∨ e.sum ≠ q.sum
              · rw [if_pos z1]
                unfold addE
                rw [if_neg (by simp [HPE.out]), HBQ.out]
                simp only
                rw [HI4.out]
                simp only
                rw [if_pos z1]
              · rw [if_neg z1]
                by_cases z2 : e.parts[q.idx.toNat]? ≠ some none
                · rw [if_pos z2]
                  unfold addE
                  rw [if_neg (by simp [HPE.out]), HBQ.out]
                  simp only
                  rw [HI4.out]
                  simp only
                  rw [if_neg z1, if_pos z2]
                · rw [if_neg z2])
            by_cases hbad : k = n ∧ e.sum = q.sum
            · obtain ⟨hkn, hsum⟩ := hbad
              have hbt : (es.toList == ss.toList) = true := by rw [hbq]; simp [hsum]
              have HSU := Lib.hid hsum
              subst hkn
              have hxk : x < k := by omega
              have hxkI : (x : Int) < (k : Int) := by omega
              clear hbq hsum
              obtain ⟨ov, hov⟩ : ∃ ov, e.parts[x]? = some ov := ⟨_, List.getElem?_eq_getElem (by rw [HEK.out]; exact hxk)⟩
              have HOV := Lib.hid hov
              obtain ⟨g0, hg0, hci, _, _, _, _⟩ := HOI6.out.slotV (k := x) (by rw [bls_len, HEK.out]; exact hxk)
              simp only [Option.some.injEq, Addr.mk.injEq, and_true] at hg0
              subst hg0
              have hci2 : w6.cell? ⟨hi5, x, none⟩ = some (.bool ov.isSome) := by rw [hci]; simp [bls, (List.getElem?_eq_some_iff.1 hov).2]
              clear hov hci
              cases ov with
              | some c =>
                have HA : Hid (addE mk most T p b = ((0, false, 151), T)) := Lib.hid (by rw [HAE.out, if_neg (by rintro (h | h); exact h (by rw [HEK.out, HCN.out]); exact h HSU.out), if_pos (by rw [HNX.out.2.2.2.2.1, HOV.out]; simp)])
                have hci3 : w6.cell? ⟨hi5, x, none⟩ = some (.bool true) := hci2
                clear hci2 HAE
                go_wp2_with fail
                go_ret3
                rw [HA.out]
                exact ⟨rfl, AddRes.same HR.out HKW.out⟩
              | none =>
                have hci3 : w6.cell? ⟨hi5, x, none⟩ = some (.bool false) := hci2
                clear hci2 HAE
                go_wp2_with fail
                go_meet
                refine ⟨hi5, ht5, ci5, ct5, e.parts, vals5, rfl, Lib.hid ⟨?_, HKX.out, .inl ⟨i, e, rfl, HI2.out, HI3.out, HI4.out, rfl, HSU.out⟩, HOV.out⟩⟩
                have hwc := HX.out.k.size
                have hfr : ∀ g, wb.heap.size ≤ g → ¬ (G g ∨ (Value.slice pa m pc).ownBlock = some g) := fun g hg hh => by
                  rcases hh with hh | hh
                  · have := HRc.out.gb g hh; omega
                  · have := (HOPc.out.lt hh).2; omega
                exact ⟨HKW.out, by rw [HSP.out, HQI.out, show strOf q.sum = es by rw [← HSU.out, HES.out]]; exact HROW.out, HX.out.gx, HOI6.out.base hwc, HOT6.out.base hwc, HEK.out, HVL5.out, HV15.out, fun j y c hy hc => by
                  have h1 := HVC5.out j y c hy hc
                  exact ⟨h1.1.kp HKX.out (fun b hb hm => by rw [List.mem_singleton] at hm; subst hm; have h2 := HR.out.gb _ (h1.2 _ hb); have h3 := HX.out.gx; omega), fun b hb => .inl (h1.2 b hb)⟩, HRE.out.c5, HKP.out, hfr _ (HOI6.out.lt rfl).1, hfr _ (HOT6.out.lt rfl).1⟩
            · have HA : Hid (addE mk most T p b = ((0, false, 260), T)) := Lib.hid (by rw [HAE.out, if_pos (by rw [HEK.out, HCN.out]; by_cases z : k = n; exact .inr (fun h => hbad ⟨z, h⟩); exact .inl (by omega))])
              clear HAE
              by_cases hkn : k = n
              · have hsn : ¬ e.sum = q.sum := fun h => hbad ⟨hkn, h⟩
                have hbt : (es.toList == ss.toList) = false := by rw [hbq]; simp [hsn]
                subst hkn
                clear hbad hbq hsn
                go_wp2_with fail
                go_ret3
                rw [HA.out]
                exact ⟨rfl, AddRes.same HR.out HKW.out⟩
              · have hknI : ((k : Int) == (n : Int)) = false := by rw [beq_eq_false_iff_ne]; omega
                have hknJ : ((k : Int) != (n : Int)) = true := by simp; omega
                clear hbad hbq hkn
                go_wp2_with fail
                go_ret3
                rw [HA.out]
                exact ⟨rfl, AddRes.same HR.out HKW.out⟩
        case rest =>
          obtain ⟨gi, gt, ci, ct, ps, vals, rfl, HYC⟩ := hcut
          have HY := Lib.hid HYC.out.1
          have HK7 := Lib.hid HYC.out.2.1
          have HJ := Lib.hid HYC.out.2.2.1
          have HPX := Lib.hid HYC.out.2.2.2
          have HLV : Hid (∀ b, lv.ownBlock = some b → b < w.heap.size) := Lib.hid (fun b hb => (HR.out.row.lt b hb).2)
          have HRW : Hid (RTz wc G r most lv cs T) := Lib.hid (HRc.out.kp HK7.out (fun b hb => by
            rw [List.mem_singleton] at hb
            subst hb
            have h1 := HX.out.gx
            refine ⟨fun hg => by have := HR.out.gb _ hg; omega, fun e => by have := (Array.getElem?_eq_some_iff.1 HR.out.hr).1; omega, fun e => by have := HLV.out _ e; omega⟩))
          have HP97 : Hid (wc.heap[g9]? = some (.cells #[.int .u32 qi, .int .i64 (n : Int), .int .i64 (x : Int), .string ss, .slice pa m pc] 147 (0, 0))) := Lib.hid (HK7.out.heap HP9c.out (by rw [List.mem_singleton]; exact HNE9.out.symm))
          have HOP7 : Hid (Own wc w.heap.size 5 (.slice pa m pc) (bv q.cont)) := Lib.hid (HOPc.out.kp HK7.out (fun b hb hm => by rw [List.mem_singleton] at hm; subst hm; exact HOPc.out.not_at HX.out.row (by decide) hb))
          have HAE := Lib.hid (addE_J (mk := mk) HR.out.nd HPE.out HBQ.out HJ.out (by rw [HY.out.pl, HCN.out]) (by rw [HNX.out.2.2.2.2.1]; exact HPX.out))
          rw [HNX.out.2.2.2.2.1] at HAE
          obtain ⟨y, hc1, hf1, hc2, hf2, hfill⟩ := HY.out.fill HPX.out HOP7.out.rd (fun b hb => .inr hb) rfl HNX.out.2.2.2.2.2
          have HFL := Lib.hid hfill
          have HC2 := Lib.hid (And.intro hc2 hf2)
          have HROW7 := Lib.hid HY.out.row
          rw [HSP.out, HSS.out, HQI.out] at HROW7
          have hx4 : wc.cell? ⟨gx, 4, none⟩ = some (.slice (some ⟨gi, 0, none⟩) n ci) := by rw [cell_of_row _ _ 4 _ _ _ HROW7.out]; rfl
          have hp2 : wc.cell? ⟨g9, 2, none⟩ = some (.int .i64 (x : Int)) := by rw [cell_of_row _ _ 2 _ _ _ HP97.out]; rfl
          have hxI : (x : Int) < (n : Int) := by omega
          have hxJ : ¬ (x : Int) < 0 := by omega
          have k1 : Kp [gi] wc (wc.setCell ⟨gi, x, none⟩ (.bool true)) := (Kp.refl [gi] wc).setCell (.inl (by simp)) _
          obtain ⟨curi, hci⟩ := HY.out.oi.block rfl
          have hne : ∀ (g : Nat) (cells : Array Value) (t : TypeId), t ≠ 4 → wc.heap[g]? = some (.cells cells t (0, 0)) → g ∉ [gi] := fun g cells t ht hg hm => by
            rw [List.mem_singleton] at hm
            rw [hm, hci] at hg
            simp only [Option.some.injEq, Obj.cells.injEq] at hg
            exact ht hg.2.1.symm
          have HP98 := Lib.hid (k1.heap HP97.out (hne _ _ _ (by decide) HP97.out))
          have HROW8 := Lib.hid (k1.heap HROW7.out (hne _ _ _ (by decide) HROW7.out))
          clear HYC hfill hc2 hf2 k1 hci hne HP9c HOPc HRc HP97 HROW7
          go_upto_region 17 with fail
          clear hx4 hp2 hc1 hf1
          obtain ⟨w7, hw7⟩ : ∃ w7, wc.setCell ⟨gi, x, none⟩ (.bool true) = w7 := ⟨_, rfl⟩
          rw [hw7] at HFL HC2 HP98 HROW8
          rw [hw7]
          have HK17 : Hid (Kp [gi] wc w7) := Lib.hid (by rw [← hw7]; exact (Kp.refl [gi] wc).setCell (.inl (by simp)) _)
          clear hw7
          obtain ⟨hc2, hf2⟩ := HC2.out
          have hx5 : w7.cell? ⟨gx, 5, none⟩ = some (.slice (some ⟨gt, 0, none⟩) n ct) := by rw [cell_of_row _ _ 5 _ _ _ HROW8.out]; rfl
          have hp2 : w7.cell? ⟨g9, 2, none⟩ = some (.int .i64 (x : Int)) := by rw [cell_of_row _ _ 2 _ _ _ HP98.out]; rfl
          have hp4 : w7.cell? ⟨g9, 4, none⟩ = some (.slice pa m pc) := by rw [cell_of_row _ _ 4 _ _ _ HP98.out]; rfl
          go_upto_region 18 with fail
          clear hc2 hf2 hx5 hp2 hp4 HC2
          obtain ⟨w8, hw8⟩ : ∃ w8, w7.setCell ⟨gt, x, none⟩ (.slice pa m pc) = w8 := ⟨_, rfl⟩
          have HK18 : Hid (Kp [gt] w7 w8) := Lib.hid (by rw [← hw8]; exact (Kp.refl [gt] w7).setCell (.inl (by simp)) _)
          have HZ : Hid (XA w w8 (fun b => G b ∨ (Value.slice pa m pc).ownBlock = some b) gx gi gt ci ct n p q.sum q.id (ps.set x (some q.cont)) (vals.set x (.slice pa m pc))) := Lib.hid (by rw [← hw8]; exact HFL.out)
          rw [hw8]
          clear hw8 HFL
          have HP99 : Hid (w8.heap[g9]? = some (.cells #[.int .u32 qi, .int .i64 (n : Int), .int .i64 (x : Int), .string ss, .slice pa m pc] 147 (0, 0))) := Lib.hid (HK18.out.heap HP98.out (fun hm => by
            rw [List.mem_singleton] at hm
            obtain ⟨curt, hct⟩ := HZ.out.ot.block rfl
            have h1 := HP98.out
            have h2 := HK18.out.size
            obtain ⟨curt7, hct7⟩ := (HY.out.ot.kp HK17.out (fun b hb hm => by rw [List.mem_singleton] at hm; subst hm; obtain ⟨curi, hci⟩ := HY.out.oi.block rfl; exact HY.out.ot.not_at hci (by decide) hb)).block rfl
            rw [hm, hct7] at h1
            simp only [Option.some.injEq, Obj.cells.injEq] at h1
            exact absurd h1.2.1 (by decide)))
          have HRG8 : Hid (∀ b, b = gi ∨ b = gt → w.heap.size ≤ b) := Lib.hid (fun b hb => by rcases hb with rfl | rfl; exact (HZ.out.oi.lt rfl).1; exact (HZ.out.ot.lt rfl).1)
          have hside : ∀ b, w.heap.size ≤ b → ¬ G b ∧ b ≠ r ∧ lv.ownBlock ≠ some b := fun b hb => ⟨fun hg => by have := HR.out.gb _ hg; omega, fun e => by have := (Array.getElem?_eq_some_iff.1 HR.out.hr).1; omega, fun e => by have := HLV.out _ e; omega⟩
          have HR8 : Hid (RTz w8 G r most lv cs T) := Lib.hid ((HRW.out.kp HK17.out (fun b hb => by rw [List.mem_singleton] at hb; exact hside b (HRG8.out b (.inl hb)))).kp HK18.out (fun b hb => by rw [List.mem_singleton] at hb; exact hside b (HRG8.out b (.inr hb))))
          have HKW8 : Hid (Kp [] w w8) := Lib.hid HZ.out.k
          have HRP := Lib.hid HZ.out.rpc
          have HROW9 := Lib.hid HZ.out.row
          have HPB : Hid (∀ b, (Value.slice pa m pc).ownBlock = some b → w.heap.size ≤ b ∧ b < w8.heap.size) := Lib.hid (fun b hb => ⟨(HOP7.out.lt hb).1, Nat.lt_of_lt_of_le (HOP7.out.lt hb).2 (Nat.le_trans HK17.out.size HK18.out.size)⟩)
          have HGB : Hid (w.heap.size ≤ gi ∧ gi < w8.heap.size ∧ w.heap.size ≤ gt ∧ gt < w8.heap.size) := Lib.hid ⟨(HZ.out.oi.lt rfl).1, (HZ.out.oi.lt rfl).2, (HZ.out.ot.lt rfl).1, (HZ.out.ot.lt rfl).2⟩
          have HGX : Hid (w.heap.size ≤ gx) := Lib.hid HZ.out.gx
          have HPTL : Hid ((ps.set x (some q.cont)).length = n) := Lib.hid HZ.out.pl
          rw [HSP.out, HSS.out, HQI.out] at HROW9
          clear HY HK7 HX HK4 HRW HOP7 HROW8 HP98 HK17 HK18 hside HZ
          obtain ⟨pt, hpt⟩ : ∃ pt, ps.set x (some q.cont) = pt := ⟨_, rfl⟩
          rw [hpt] at HAE HRP HPTL
          clear hpt
          go_cut [101] (fun cv w' => cv = .bool (decide ((missL pt).length = 0 ∧ mk (textL pt) ≠ q.sum)) ∧ Hid (Kp [] w8 w'))
          case first =>
            have HRNG : Hid (∀ W, Kp [] w8 W → W.rangeAt gx 0 [.string sp, .int .u32 qi, .int .i64 (n : Int), .string ss, .slice (some ⟨gi, 0, none⟩) n ci, .slice (some ⟨gt, 0, none⟩) n ct]) := Lib.hid (fun W k j v hv => by rw [Nat.zero_add]; refine k.cell_some ?_ (by simp); rw [cell_of_row _ _ j _ _ _ HROW9.out]; simpa using hv)
            have HWH : Hid (∀ W, Kp [] w8 W → Calls Tryd.prog 78 #[.agg #[.string sp, .int .u32 qi, .int .i64 (n : Int), .string ss, .slice (some ⟨gi, 0, none⟩) n ci, .slice (some ⟨gt, 0, none⟩) n ct]] W fun e w' => e = .returned (.bool (decide ((missL pt).length = 0))) ∧ Kp [] W w') := Lib.hid (fun W k => rwhole_e sp ss qi (n : Int) (HRP.out.kp k (by simp)))
            have HTX : Hid (∀ W, Kp [] w8 W → Calls Tryd.prog 80 #[.agg #[.string sp, .int .u32 qi, .int .i64 (n : Int), .string ss, .slice (some ⟨gi, 0, none⟩) n ci, .slice (some ⟨gt, 0, none⟩) n ct]] W fun e w' => ∃ v, e = .returned v ∧ Own w' W.heap.size 5 v (bv (textL pt)) ∧ Kp [] W w') := Lib.hid (fun W k => rtext_e sp ss qi (n : Int) (HRP.out.kp k (by simp)))
            have HTL2 : Hid ((textL pt).length ≤ 40000) := Lib.hid (by have h1 := flat_len (cts pt) 497 HRP.out.c5; rw [textL_cts]; have h2 : (cts pt).length ≤ 64 := (by unfold cts; rw [List.length_map]; exact HRP.out.n1.2); have h3 := Nat.mul_le_mul_right 497 h2; omega)
            have hx3 : ∀ W, Kp [] w8 W → W.cell? ⟨gx, 3, none⟩ = some (.string ss) := fun W k => k.cell_some (by rw [cell_of_row _ _ 3 _ _ _ HROW9.out]; rfl) (by simp)
            have hbq : ((strOf (mk (textL pt))).toList == ss.toList) = decide (mk (textL pt) = q.sum) := by rw [← HSS.out]; exact strOf_beq _ _
            obtain ⟨zm, hzm⟩ : ∃ z, strOf (mk (textL pt)) = z := ⟨_, rfl⟩
            have HZM := Lib.hid hzm
            rw [hzm] at hbq
            clear hzm
            by_cases hz : (missL pt).length = 0
            · have hzd : decide ((missL pt).length = 0) = true := decide_eq_true hz
              by_cases hs : mk (textL pt) = q.sum
              · rw [decide_eq_true hs] at hbq
                have HS := Lib.hid hs
                clear hs
                as_aux_lemma =>
                refine wp_region_noPanic ?_
                refine wp_region_held_drew (S := fun W => Kp [] w8 W) (by kernel_rfl) ((Kp.refl [] w8).drew) (fun hHeld => ?_)
                generalize w8.drew = W0 at *
                refine wpAnyH_take (i := 0) (oi := { dst := some 92, op := Op.load 153 (Operand.tmp 12), type := 153, pos := "ref.go:161", after := #[], guard := none }) (v := .agg ([.string sp, .int .u32 qi, .int .i64 (n : Int), .string ss, .slice (some ⟨gi, 0, none⟩) n ci, .slice (some ⟨gt, 0, none⟩) n ct]).toArray) rfl (by kernel_rfl) (by kernel_rfl) (by kernel_rfl) (fun _ _ _ h => h) (yieldsIf_load_mid (by rfl) 153 (.tmp 12) (by rfl) gx 0 (by rfl) ([.string sp, .int .u32 qi, .int .i64 (n : Int), .string ss, .slice (some ⟨gi, 0, none⟩) n ci, .slice (some ⟨gt, 0, none⟩) n ct]) _ (fun w h => HRNG.out w h) Tryd.underlying153 rfl (by kernel_rfl)) (by assumption) ?_
                try simp only [Act.put, List.setIfInBounds_toArray, List.set_cons_zero, List.set_cons_succ]
                refine wpAnyH_ready (rs := [1]) (by kernel_rfl) (by simp) ?_
                refine AllReadyH.cons (o := { dst := some 93, op := Op.call { callee := Callee.value (Operand.func 78), args := #[Operand.tmp 92], argTypes := #[153] }, type := 4, pos := "ref.go:161", after := #[{ on := 0, ground := Ground.data }], guard := none }) rfl (fun K' hK => ?_) AllReadyH.nil
                go_simp
                refine (HWH.out _ hHeld).mono ?_
                rintro en W1 ⟨rfl, hkA⟩
                rw [hzd]
                have hS1 : Kp [] w8 W1 := hHeld.trans0 hkA
                clear hHeld hkA
                (try go_simp)
                refine hK.out _ _ (hS1) (fun hHeld => ?_)
                clear hK K'
                try simp only [Act.put, List.setIfInBounds_toArray, List.set_cons_zero, List.set_cons_succ]
                refine wpAnyH_take (i := 2) (oi := { dst := some 94, op := Op.move (Operand.tmp 93), type := 4, pos := "ref.go:161", after := #[{ on := 1, ground := Ground.data }, { on := 1, ground := Ground.chain }], guard := none }) (v := .bool true) rfl (by kernel_rfl) (by kernel_rfl) (by kernel_rfl) (fun _ _ _ h => h) (Or.inl ⟨by rfl, by intro w hSw; (try dsimp only at hSw); go_simp⟩) (by assumption) ?_
                try simp only [Act.put, List.setIfInBounds_toArray, List.set_cons_zero, List.set_cons_succ]
                refine wpAnyH_take (i := 3) (oi := { dst := some 95, op := Op.load 153 (Operand.tmp 12), type := 153, pos := "ref.go:161", after := #[{ on := 2, ground := Ground.guard }], guard := some (2, true) }) (v := .agg ([.string sp, .int .u32 qi, .int .i64 (n : Int), .string ss, .slice (some ⟨gi, 0, none⟩) n ci, .slice (some ⟨gt, 0, none⟩) n ct]).toArray) rfl (by kernel_rfl) (by kernel_rfl) (by kernel_rfl) (fun _ _ _ h => h) (yieldsIf_load_mid (by rfl) 153 (.tmp 12) (by rfl) gx 0 (by rfl) ([.string sp, .int .u32 qi, .int .i64 (n : Int), .string ss, .slice (some ⟨gi, 0, none⟩) n ci, .slice (some ⟨gt, 0, none⟩) n ct]) _ (fun w h => HRNG.out w h) Tryd.underlying153 rfl (by kernel_rfl)) (by assumption) ?_
                try simp only [Act.put, List.setIfInBounds_toArray, List.set_cons_zero, List.set_cons_succ]
                refine wpAnyH_take (i := 6) (oi := { dst := some 98, op := Op.fieldAddr 153 (Operand.tmp 12) 3, type := 0, pos := "ref.go:161", after := #[{ on := 2, ground := Ground.guard }], guard := some (2, true) }) (v := .pointer (some ⟨gx, 3, none⟩)) rfl (by kernel_rfl) (by kernel_rfl) (by kernel_rfl) (fun _ _ _ h => h) (Or.inl ⟨by rfl, by intro w hSw; (try dsimp only at hSw); go_simp⟩) (by assumption) ?_
                try simp only [Act.put, List.setIfInBounds_toArray, List.set_cons_zero, List.set_cons_succ]
                refine wpAnyH_take (i := 7) (oi := { dst := some 99, op := Op.load 9 (Operand.tmp 98), type := 9, pos := "ref.go:161", after := #[{ on := 6, ground := Ground.data }, { on := 2, ground := Ground.guard }], guard := some (2, true) }) (v := .string ss) rfl (by kernel_rfl) (by kernel_rfl) (by kernel_rfl) (fun _ _ _ h => h) (Or.inl ⟨by rfl, by intro w hSw; (try dsimp only at hSw); have hcx := hx3 _ hSw; go_simp⟩) (by assumption) ?_
                try simp only [Act.put, List.setIfInBounds_toArray, List.set_cons_zero, List.set_cons_succ]
                refine wpAnyH_ready (rs := [4]) (by kernel_rfl) (by simp) ?_
                refine AllReadyH.cons (o := { dst := some 96, op := Op.call { callee := Callee.value (Operand.func 80), args := #[Operand.tmp 95], argTypes := #[153] }, type := 27, pos := "ref.go:161", after := #[{ on := 3, ground := Ground.data }, { on := 2, ground := Ground.chain }, { on := 2, ground := Ground.guard }], guard := some (2, true) }) rfl (fun K' hK => ?_) AllReadyH.nil
                go_simp
                refine (HTX.out _ hHeld).mono ?_
                rintro en W2 ⟨v2, rfl, hoB, hkB⟩
                have hS2 : Kp [] w8 W2 := hHeld.trans0 hkB
                have HOB := Lib.hid hoB
                clear hHeld hkB hoB
                (try go_simp)
                refine hK.out _ _ (hS2) (fun hHeld => ?_)
                clear hK K'
                try simp only [Act.put, List.setIfInBounds_toArray, List.set_cons_zero, List.set_cons_succ]
                refine wpAnyH_ready (rs := [5]) (by kernel_rfl) (by simp) ?_
                refine AllReadyH.cons (o := { dst := some 97, op := Op.call { callee := Callee.value (Operand.func 79), args := #[Operand.tmp 96], argTypes := #[27] }, type := 9, pos := "ref.go:161", after := #[{ on := 4, ground := Ground.data }, { on := 4, ground := Ground.chain }, { on := 2, ground := Ground.guard }], guard := some (2, true) }) rfl (fun K' hK => ?_) AllReadyH.nil
                go_simp
                refine (HMS.out _ _ _ (HKW8.out.trans0 hHeld) HOB.out.rd HTL2.out).mono ?_
                rintro en W3 ⟨rfl, hkC⟩
                rw [HZM.out]
                have hS3 : Kp [] w8 W3 := hHeld.trans0 hkC
                clear hHeld hkC
                (try go_simp)
                refine hK.out _ _ (hS3) (fun hHeld => ?_)
                clear hK K'
                try simp only [Act.put, List.setIfInBounds_toArray, List.set_cons_zero, List.set_cons_succ]
                refine wpAnyH_take (i := 8) (oi := { dst := some 100, op := Op.binOp BinOp.neq 9 (Operand.tmp 97) (Operand.tmp 99) 9, type := 4, pos := "ref.go:161", after := #[{ on := 5, ground := Ground.data }, { on := 7, ground := Ground.data }, { on := 2, ground := Ground.guard }], guard := some (2, true) }) (v := .bool false) rfl (by kernel_rfl) (by kernel_rfl) (by kernel_rfl) (fun _ _ _ h => h) (Or.inl ⟨by rfl, by intro w hSw; (try dsimp only at hSw); have hbx := hbq; go_simp⟩) (by assumption) ?_
                try simp only [Act.put, List.setIfInBounds_toArray, List.set_cons_zero, List.set_cons_succ]
                refine wpAnyH_take (i := 9) (oi := { dst := some 101, op := Op.pick (Operand.tmp 94) (Operand.tmp 100) (Operand.const (Value.bool false)), type := 4, pos := "ref.go:161", after := #[{ on := 2, ground := Ground.data }, { on := 8, ground := Ground.data }], guard := none }) (v := .bool false) rfl (by kernel_rfl) (by kernel_rfl) (by kernel_rfl) (fun _ _ _ h => h) (Or.inl ⟨by rfl, by intro w hSw; (try dsimp only at hSw); go_simp⟩) (by assumption) ?_
                try simp only [Act.put, List.setIfInBounds_toArray, List.set_cons_zero, List.set_cons_succ]
                refine wpAnyH_done (by kernel_rfl) ?_ _
                refine NoPanic.normal ?_
                have HKE := Lib.hid hHeld
                go_wp2_with fail
                go_meet
                exact ⟨by rw [decide_eq_false (fun h => h.2 HS.out)], HKE⟩
              · rw [decide_eq_false hs] at hbq
                have HS := Lib.hid hs
                clear hs
                as_aux_lemma =>
                refine wp_region_noPanic ?_
                refine wp_region_held_drew (S := fun W => Kp [] w8 W) (by kernel_rfl) ((Kp.refl [] w8).drew) (fun hHeld => ?_)
                generalize w8.drew = W0 at *
                refine wpAnyH_take (i := 0) (oi := { dst := some 92, op := Op.load 153 (Operand.tmp 12), type := 153, pos := "ref.go:161", after := #[], guard := none }) (v := .agg ([.string sp, .int .u32 qi, .int .i64 (n : Int), .string ss, .slice (some ⟨gi, 0, none⟩) n ci, .slice (some ⟨gt, 0, none⟩) n ct]).toArray) rfl (by kernel_rfl) (by kernel_rfl) (by kernel_rfl) (fun _ _ _ h => h) (yieldsIf_load_mid (by rfl) 153 (.tmp 12) (by rfl) gx 0 (by rfl) ([.string sp, .int .u32 qi, .int .i64 (n : Int), .string ss, .slice (some ⟨gi, 0, none⟩) n ci, .slice (some ⟨gt, 0, none⟩) n ct]) _ (fun w h => HRNG.out w h) Tryd.underlying153 rfl (by kernel_rfl)) (by assumption) ?_
                try simp only [Act.put, List.setIfInBounds_toArray, List.set_cons_zero, List.set_cons_succ]
                refine wpAnyH_ready (rs := [1]) (by kernel_rfl) (by simp) ?_
                refine AllReadyH.cons (o := { dst := some 93, op := Op.call { callee := Callee.value (Operand.func 78), args := #[Operand.tmp 92], argTypes := #[153] }, type := 4, pos := "ref.go:161", after := #[{ on := 0, ground := Ground.data }], guard := none }) rfl (fun K' hK => ?_) AllReadyH.nil
                go_simp
                refine (HWH.out _ hHeld).mono ?_
                rintro en W1 ⟨rfl, hkA⟩
                rw [hzd]
                have hS1 : Kp [] w8 W1 := hHeld.trans0 hkA
                clear hHeld hkA
                (try go_simp)
                refine hK.out _ _ (hS1) (fun hHeld => ?_)
                clear hK K'
                try simp only [Act.put, List.setIfInBounds_toArray, List.set_cons_zero, List.set_cons_succ]
                refine wpAnyH_take (i := 2) (oi := { dst := some 94, op := Op.move (Operand.tmp 93), type := 4, pos := "ref.go:161", after := #[{ on := 1, ground := Ground.data }, { on := 1, ground := Ground.chain }], guard := none }) (v := .bool true) rfl (by kernel_rfl) (by kernel_rfl) (by kernel_rfl) (fun _ _ _ h => h) (Or.inl ⟨by rfl, by intro w hSw; (try dsimp only at hSw); go_simp⟩) (by assumption) ?_
                try simp only [Act.put, List.setIfInBounds_toArray, List.set_cons_zero, List.set_cons_succ]
                refine wpAnyH_take (i := 3) (oi := { dst := some 95, op := Op.load 153 (Operand.tmp 12), type := 153, pos := "ref.go:161", after := #[{ on := 2, ground := Ground.guard }], guard := some (2, true) }) (v := .agg ([.string sp, .int .u32 qi, .int .i64 (n : Int), .string ss, .slice (some ⟨gi, 0, none⟩) n ci, .slice (some ⟨gt, 0, none⟩) n ct]).toArray) rfl (by kernel_rfl) (by kernel_rfl) (by kernel_rfl) (fun _ _ _ h => h) (yieldsIf_load_mid (by rfl) 153 (.tmp 12) (by rfl) gx 0 (by rfl) ([.string sp, .int .u32 qi, .int .i64 (n : Int), .string ss, .slice (some ⟨gi, 0, none⟩) n ci, .slice (some ⟨gt, 0, none⟩) n ct]) _ (fun w h => HRNG.out w h) Tryd.underlying153 rfl (by kernel_rfl)) (by assumption) ?_
                try simp only [Act.put, List.setIfInBounds_toArray, List.set_cons_zero, List.set_cons_succ]
                refine wpAnyH_take (i := 6) (oi := { dst := some 98, op := Op.fieldAddr 153 (Operand.tmp 12) 3, type := 0, pos := "ref.go:161", after := #[{ on := 2, ground := Ground.guard }], guard := some (2, true) }) (v := .pointer (some ⟨gx, 3, none⟩)) rfl (by kernel_rfl) (by kernel_rfl) (by kernel_rfl) (fun _ _ _ h => h) (Or.inl ⟨by rfl, by intro w hSw; (try dsimp only at hSw); go_simp⟩) (by assumption) ?_
                try simp only [Act.put, List.setIfInBounds_toArray, List.set_cons_zero, List.set_cons_succ]
                refine wpAnyH_take (i := 7) (oi := { dst := some 99, op := Op.load 9 (Operand.tmp 98), type := 9, pos := "ref.go:161", after := #[{ on := 6, ground := Ground.data }, { on := 2, ground := Ground.guard }], guard := some (2, true) }) (v := .string ss) rfl (by kernel_rfl) (by kernel_rfl) (by kernel_rfl) (fun _ _ _ h => h) (Or.inl ⟨by rfl, by intro w hSw; (try dsimp only at hSw); have hcx := hx3 _ hSw; go_simp⟩) (by assumption) ?_
                try simp only [Act.put, List.setIfInBounds_toArray, List.set_cons_zero, List.set_cons_succ]
                refine wpAnyH_ready (rs := [4]) (by kernel_rfl) (by simp) ?_
                refine AllReadyH.cons (o := { dst := some 96, op := Op.call { callee := Callee.value (Operand.func 80), args := #[Operand.tmp 95], argTypes := #[153] }, type := 27, pos := "ref.go:161", after := #[{ on := 3, ground := Ground.data }, { on := 2, ground := Ground.chain }, { on := 2, ground := Ground.guard }], guard := some (2, true) }) rfl (fun K' hK => ?_) AllReadyH.nil
                go_simp
                refine (HTX.out _ hHeld).mono ?_
                rintro en W2 ⟨v2, rfl, hoB, hkB⟩
                have hS2 : Kp [] w8 W2 := hHeld.trans0 hkB
                have HOB := Lib.hid hoB
                clear hHeld hkB hoB
                (try go_simp)
                refine hK.out _ _ (hS2) (fun hHeld => ?_)
                clear hK K'
                try simp only [Act.put, List.setIfInBounds_toArray, List.set_cons_zero, List.set_cons_succ]
                refine wpAnyH_ready (rs := [5]) (by kernel_rfl) (by simp) ?_
                refine AllReadyH.cons (o := { dst := some 97, op := Op.call { callee := Callee.value (Operand.func 79), args := #[Operand.tmp 96], argTypes := #[27] }, type := 9, pos := "ref.go:161", after := #[{ on := 4, ground := Ground.data }, { on := 4, ground := Ground.chain }, { on := 2, ground := Ground.guard }], guard := some (2, true) }) rfl (fun K' hK => ?_) AllReadyH.nil
                go_simp
                refine (HMS.out _ _ _ (HKW8.out.trans0 hHeld) HOB.out.rd HTL2.out).mono ?_
                rintro en W3 ⟨rfl, hkC⟩
                rw [HZM.out]
                have hS3 : Kp [] w8 W3 := hHeld.trans0 hkC
                clear hHeld hkC
                (try go_simp)
                refine hK.out _ _ (hS3) (fun hHeld => ?_)
                clear hK K'
                try simp only [Act.put, List.setIfInBounds_toArray, List.set_cons_zero, List.set_cons_succ]
                refine wpAnyH_take (i := 8) (oi := { dst := some 100, op := Op.binOp BinOp.neq 9 (Operand.tmp 97) (Operand.tmp 99) 9, type := 4, pos := "ref.go:161", after := #[{ on := 5, ground := Ground.data }, { on := 7, ground := Ground.data }, { on := 2, ground := Ground.guard }], guard := some (2, true) }) (v := .bool true) rfl (by kernel_rfl) (by kernel_rfl) (by kernel_rfl) (fun _ _ _ h => h) (Or.inl ⟨by rfl, by intro w hSw; (try dsimp only at hSw); have hbx := hbq; go_simp⟩) (by assumption) ?_
                try simp only [Act.put, List.setIfInBounds_toArray, List.set_cons_zero, List.set_cons_succ]
                refine wpAnyH_take (i := 9) (oi := { dst := some 101, op := Op.pick (Operand.tmp 94) (Operand.tmp 100) (Operand.const (Value.bool false)), type := 4, pos := "ref.go:161", after := #[{ on := 2, ground := Ground.data }, { on := 8, ground := Ground.data }], guard := none }) (v := .bool true) rfl (by kernel_rfl) (by kernel_rfl) (by kernel_rfl) (fun _ _ _ h => h) (Or.inl ⟨by rfl, by intro w hSw; (try dsimp only at hSw); go_simp⟩) (by assumption) ?_
                try simp only [Act.put, List.setIfInBounds_toArray, List.set_cons_zero, List.set_cons_succ]
                refine wpAnyH_done (by kernel_rfl) ?_ _
                refine NoPanic.normal ?_
                have HKE := Lib.hid hHeld
                go_wp2_with fail
                go_meet
                exact ⟨by rw [decide_eq_true (⟨hz, HS.out⟩ : _ ∧ _)], HKE⟩
            · have hzd : decide ((missL pt).length = 0) = false := decide_eq_false hz
              as_aux_lemma =>
              refine wp_region_noPanic ?_
              refine wp_region_held_drew (S := fun W => Kp [] w8 W) (by kernel_rfl) ((Kp.refl [] w8).drew) (fun hHeld => ?_)
              generalize w8.drew = W0 at *
              refine wpAnyH_take (i := 0) (oi := { dst := some 92, op := Op.load 153 (Operand.tmp 12), type := 153, pos := "ref.go:161", after := #[], guard := none }) (v := .agg ([.string sp, .int .u32 qi, .int .i64 (n : Int), .string ss, .slice (some ⟨gi, 0, none⟩) n ci, .slice (some ⟨gt, 0, none⟩) n ct]).toArray) rfl (by kernel_rfl) (by kernel_rfl) (by kernel_rfl) (fun _ _ _ h => h) (yieldsIf_load_mid (by rfl) 153 (.tmp 12) (by rfl) gx 0 (by rfl) ([.string sp, .int .u32 qi, .int .i64 (n : Int), .string ss, .slice (some ⟨gi, 0, none⟩) n ci, .slice (some ⟨gt, 0, none⟩) n ct]) _ (fun w h => HRNG.out w h) Tryd.underlying153 rfl (by kernel_rfl)) (by assumption) ?_
              try simp only [Act.put, List.setIfInBounds_toArray, List.set_cons_zero, List.set_cons_succ]
              refine wpAnyH_ready (rs := [1]) (by kernel_rfl) (by simp) ?_
              refine AllReadyH.cons (o := { dst := some 93, op := Op.call { callee := Callee.value (Operand.func 78), args := #[Operand.tmp 92], argTypes := #[153] }, type := 4, pos := "ref.go:161", after := #[{ on := 0, ground := Ground.data }], guard := none }) rfl (fun K' hK => ?_) AllReadyH.nil
              go_simp
              refine (HWH.out _ hHeld).mono ?_
              rintro en W1 ⟨rfl, hkA⟩
              rw [hzd]
              have hS1 : Kp [] w8 W1 := hHeld.trans0 hkA
              clear hHeld hkA
              (try go_simp)
              refine hK.out _ _ (hS1) (fun hHeld => ?_)
              clear hK K'
              try simp only [Act.put, List.setIfInBounds_toArray, List.set_cons_zero, List.set_cons_succ]
              refine wpAnyH_take (i := 2) (oi := { dst := some 94, op := Op.move (Operand.tmp 93), type := 4, pos := "ref.go:161", after := #[{ on := 1, ground := Ground.data }, { on := 1, ground := Ground.chain }], guard := none }) (v := .bool false) rfl (by kernel_rfl) (by kernel_rfl) (by kernel_rfl) (fun _ _ _ h => h) (Or.inl ⟨by rfl, by intro w hSw; (try dsimp only at hSw); go_simp⟩) (by assumption) ?_
              try simp only [Act.put, List.setIfInBounds_toArray, List.set_cons_zero, List.set_cons_succ]
              refine wpAnyH_take (i := 3) (oi := { dst := some 95, op := Op.load 153 (Operand.tmp 12), type := 153, pos := "ref.go:161", after := #[{ on := 2, ground := Ground.guard }], guard := some (2, true) }) (v := undef) rfl (by kernel_rfl) (by kernel_rfl) (by kernel_rfl) (fun _ _ _ h => h) (Or.inr ⟨by rfl, rfl⟩) (by assumption) ?_
              try simp only [Act.put, List.setIfInBounds_toArray, List.set_cons_zero, List.set_cons_succ]
              refine wpAnyH_take (i := 4) (oi := { dst := some 96, op := Op.call { callee := Callee.value (Operand.func 80), args := #[Operand.tmp 95], argTypes := #[153] }, type := 27, pos := "ref.go:161", after := #[{ on := 3, ground := Ground.data }, { on := 2, ground := Ground.chain }, { on := 2, ground := Ground.guard }], guard := some (2, true) }) (v := undef) rfl (by kernel_rfl) (by kernel_rfl) (by kernel_rfl) (fun _ _ _ h => h) (Or.inr ⟨by rfl, rfl⟩) (by assumption) ?_
              try simp only [Act.put, List.setIfInBounds_toArray, List.set_cons_zero, List.set_cons_succ]
              refine wpAnyH_take (i := 5) (oi := { dst := some 97, op := Op.call { callee := Callee.value (Operand.func 79), args := #[Operand.tmp 96], argTypes := #[27] }, type := 9, pos := "ref.go:161", after := #[{ on := 4, ground := Ground.data }, { on := 4, ground := Ground.chain }, { on := 2, ground := Ground.guard }], guard := some (2, true) }) (v := undef) rfl (by kernel_rfl) (by kernel_rfl) (by kernel_rfl) (fun _ _ _ h => h) (Or.inr ⟨by rfl, rfl⟩) (by assumption) ?_
              try simp only [Act.put, List.setIfInBounds_toArray, List.set_cons_zero, List.set_cons_succ]
              refine wpAnyH_take (i := 6) (oi := { dst := some 98, op := Op.fieldAddr 153 (Operand.tmp 12) 3, type := 0, pos := "ref.go:161", after := #[{ on := 2, ground := Ground.guard }], guard := some (2, true) }) (v := undef) rfl (by kernel_rfl) (by kernel_rfl) (by kernel_rfl) (fun _ _ _ h => h) (Or.inr ⟨by rfl, rfl⟩) (by assumption) ?_
              try simp only [Act.put, List.setIfInBounds_toArray, List.set_cons_zero, List.set_cons_succ]
              refine wpAnyH_take (i := 7) (oi := { dst := some 99, op := Op.load 9 (Operand.tmp 98), type := 9, pos := "ref.go:161", after := #[{ on := 6, ground := Ground.data }, { on := 2, ground := Ground.guard }], guard := some (2, true) }) (v := undef) rfl (by kernel_rfl) (by kernel_rfl) (by kernel_rfl) (fun _ _ _ h => h) (Or.inr ⟨by rfl, rfl⟩) (by assumption) ?_
              try simp only [Act.put, List.setIfInBounds_toArray, List.set_cons_zero, List.set_cons_succ]
              refine wpAnyH_take (i := 8) (oi := { dst := some 100, op := Op.binOp BinOp.neq 9 (Operand.tmp 97) (Operand.tmp 99) 9, type := 4, pos := "ref.go:161", after := #[{ on := 5, ground := Ground.data }, { on := 7, ground := Ground.data }, { on := 2, ground := Ground.guard }], guard := some (2, true) }) (v := undef) rfl (by kernel_rfl) (by kernel_rfl) (by kernel_rfl) (fun _ _ _ h => h) (Or.inr ⟨by rfl, rfl⟩) (by assumption) ?_
              try simp only [Act.put, List.setIfInBounds_toArray, List.set_cons_zero, List.set_cons_succ]
              refine wpAnyH_take (i := 9) (oi := { dst := some 101, op := Op.pick (Operand.tmp 94) (Operand.tmp 100) (Operand.const (Value.bool false)), type := 4, pos := "ref.go:161", after := #[{ on := 2, ground := Ground.data }, { on := 8, ground := Ground.data }], guard := none }) (v := .bool false) rfl (by kernel_rfl) (by kernel_rfl) (by kernel_rfl) (fun _ _ _ h => h) (Or.inl ⟨by rfl, by intro w hSw; (try dsimp only at hSw); go_simp⟩) (by assumption) ?_
              try simp only [Act.put, List.setIfInBounds_toArray, List.set_cons_zero, List.set_cons_succ]
              refine wpAnyH_done (by kernel_rfl) ?_ _
              refine NoPanic.normal ?_
              have HKE := Lib.hid hHeld
              go_wp2_with fail
              go_meet
              exact ⟨by rw [decide_eq_false (fun h => hz h.1)], HKE⟩
          case rest =>
            obtain ⟨rfl, HK9⟩ := hcut
            have HRNG : Hid (∀ W, Kp [] w8 W → W.rangeAt gx 0 [.string sp, .int .u32 qi, .int .i64 (n : Int), .string ss, .slice (some ⟨gi, 0, none⟩) n ci, .slice (some ⟨gt, 0, none⟩) n ct]) := Lib.hid (fun W k j v hv => by rw [Nat.zero_add]; refine k.cell_some ?_ (by simp); rw [cell_of_row _ _ j _ _ _ HROW9.out]; simpa using hv)
            by_cases hbad : (missL pt).length = 0 ∧ mk (textL pt) ≠ q.sum
            · have HA : Hid (addE mk most T p b = ((0, false, 101), T)) := Lib.hid (by rw [HAE.out, if_pos hbad])
              rw [decide_eq_true hbad]
              clear hbad HAE
              go_wp2_with fail
              go_ret3
              rw [HA.out]
              exact ⟨rfl, AddRes.same HR.out (HKW8.out.trans0 HK9.out)⟩
            · have HA : Hid (addE mk most T p b = ((q.id, decide ((missL pt).length = 0), 0), AddT T p q ix pt)) := Lib.hid (by rw [HAE.out, if_neg hbad])
              rw [decide_eq_false hbad]
              clear hbad HAE
              have HWH : Hid (∀ W, Kp [] w8 W → True) := Lib.hid (fun _ _ => trivial)
              clear HWH
              have HGD : Hid ((∀ b, (((G b ∨ (Value.slice pa m pc).ownBlock = some b) ∨ b = gi ∨ b = gt) → b < wc.heap.size)) ∧ ¬ (((G r ∨ (Value.slice pa m pc).ownBlock = some r) ∨ r = gi ∨ r = gt)) ∧ (∀ b, lv.ownBlock = some b → ¬ (((G b ∨ (Value.slice pa m pc).ownBlock = some b) ∨ b = gi ∨ b = gt))) ∧ ∀ b, (((G b ∨ (Value.slice pa m pc).ownBlock = some b) ∨ b = gi ∨ b = gt) → G b ∨ w.heap.size ≤ b)) := Lib.hid (by
                have hgil := HRP.out.ib
                have hs9 := HK9.out.size
                have hG9 : ∀ b, G b → b < w.heap.size := HR.out.gb
                have hrw : r < w.heap.size := (Array.getElem?_eq_some_iff.1 HR.out.hr).1
                have hpb : ∀ b, (Value.slice pa m pc).ownBlock = some b → w.heap.size ≤ b ∧ b < w8.heap.size := fun b hb => HPB.out b hb
                have h1 := HGB.out
                refine ⟨fun b hb => ?_, fun hb => ?_, fun b hl hb => ?_, fun b hb => ?_⟩
                · rcases hb with (hb | hb) | rfl | rfl
                  · have := hG9 b hb; have := HKW8.out.size; omega
                  · have := (hpb b hb).2; omega
                  · omega
                  · omega
                · rcases hb with (hb | hb) | hb | hb
                  · exact HR.out.gr hb
                  · have := (hpb r hb).1; omega
                  · omega
                  · omega
                · have hlw := HLV.out b hl
                  rcases hb with (hb | hb) | hb | hb
                  · exact HR.out.gl b hl hb
                  · have := (hpb b hb).1; omega
                  · omega
                  · omega
                · rcases hb with (hb | hb) | rfl | rfl
                  · exact .inl hb
                  · exact .inr (hpb b hb).1
                  · exact .inr (by omega)
                  · exact .inr (by omega))
              have HRX : Hid (RTz wc (fun b => (G b ∨ (Value.slice pa m pc).ownBlock = some b) ∨ b = gi ∨ b = gt) r most lv cs T) := Lib.hid ((HR8.out.kp0 HK9.out).moreG (fun b hb => .inl (.inl hb)) HGD.out.1 HGD.out.2.1 HGD.out.2.2.1)
              have HRPX := Lib.hid (HRP.out.kp HK9.out (by simp))
              have HROWX : Hid (wc.heap[gx]? = some (.cells #[.string sp, .int .u32 qi, .int .i64 (n : Int), .string ss, .slice (some ⟨gi, 0, none⟩) n ci, .slice (some ⟨gt, 0, none⟩) n ct] 153 (0, 0))) := Lib.hid (HK9.out.heap HROW9.out (by simp))
              have HP9X : Hid (wc.heap[g9]? = some (.cells #[.int .u32 qi, .int .i64 (n : Int), .int .i64 (x : Int), .string ss, .slice pa m pc] 147 (0, 0))) := Lib.hid (HK9.out.heap HP99.out (by simp))
              have HKWX : Hid (Kp [] w wc) := Lib.hid (HKW8.out.trans0 HK9.out)
              obtain ⟨wb, rfl⟩ : ∃ wb : World, wb = wc := ⟨_, rfl⟩
              clear HRNG HR8 HRP HROW9 HP99 HKW8 HK9
              go_upto_if 103 with fail
              go_cut [] (fun w' => Hid (AddRes w w' G r most lv (AddT T p q ix pt) ∧ RPc w' (fun b => (G b ∨ (Value.slice pa m pc).ownBlock = some b) ∨ b = gi ∨ b = gt) pt (.slice (some ⟨gi, 0, none⟩) n ci) (.slice (some ⟨gt, 0, none⟩) n ct) ∧ w'.heap[gx]? = some (.cells #[.string sp, .int .u32 qi, .int .i64 (n : Int), .string ss, .slice (some ⟨gi, 0, none⟩) n ci, .slice (some ⟨gt, 0, none⟩) n ct] 153 (0, 0)) ∧ w'.heap[g9]? = some (.cells #[.int .u32 qi, .int .i64 (n : Int), .int .i64 (x : Int), .string ss, .slice pa m pc] 147 (0, 0))))
              case first =>
                have HRNG : Hid (∀ W, Kp (r :: lv.ownBlock.toList) wb W → W.rangeAt gx 0 [.string sp, .int .u32 qi, .int .i64 (n : Int), .string ss, .slice (some ⟨gi, 0, none⟩) n ci, .slice (some ⟨gt, 0, none⟩) n ct]) := Lib.hid (fun W k j v hv => by
                  rw [Nat.zero_add]
                  refine k.cell_some ?_ ?_
                  · rw [cell_of_row _ _ j _ _ _ HROWX.out]; simpa using hv
                  · intro hm
                    have h1 := HGX.out
                    have h2 := (Array.getElem?_eq_some_iff.1 HR.out.hr).1
                    rcases List.mem_cons.1 hm with hm | hm
                    · exact absurd hm (by show gx ≠ r; omega)
                    · rw [Option.mem_toList] at hm
                      have := HLV.out _ hm
                      have : gx < w.heap.size := this
                      omega)
                have HHD : Hid (∀ b, b = gx ∨ b = g9 → b ∉ (r :: lv.ownBlock.toList)) := Lib.hid (fun b hb hm => by
                  have h1 := HGX.out
                  have h3 := HG9.out
                  have h2 := (Array.getElem?_eq_some_iff.1 HR.out.hr).1
                  have hbw : w.heap.size ≤ b := by rcases hb with rfl | rfl; exact h1; exact h3
                  rcases List.mem_cons.1 hm with hm | hm
                  · omega
                  · rw [Option.mem_toList] at hm
                    have := HLV.out _ hm
                    omega)
                have HRB : Hid (r < w.heap.size) := Lib.hid (Array.getElem?_eq_some_iff.1 HR.out.hr).1
                have hrl : ∀ lb, lv.ownBlock = some lb → lb ≠ r := fun lb hlb => by
                  rcases HRX.out.row.2 with ⟨h1, _⟩ | ⟨g, cap, cur, hv, _, hg, _⟩
                  · rw [h1] at hlb; cases hlb
                  · rw [hv] at hlb
                    cases hlb
                    rintro rfl
                    have h1 := HRX.out.hr
                    rw [show (⟨g, 0, none⟩ : Addr).block = g from rfl, hg] at h1
                    simp only [Option.some.injEq, Obj.cells.injEq] at h1
                    exact absurd h1.2.1 (by decide)
                have HLR := Lib.hid hrl
                clear hrl
                have hc0 := HRX.out.c0
                obtain ⟨nT, hnT⟩ : ∃ nT, T.length = nT := ⟨_, rfl⟩
                have hnT64 : nT ≤ 64 := by rw [← hnT]; exact HTL.out
                have HNT := Lib.hid hnT
                rcases HJ.out with ⟨i, e, hj1, hj2, hj3, _, _, hj6⟩ | ⟨hj1, _, hj3, _⟩
                · subst hj1
                  obtain ⟨lb, lc, _, _, hlv, _, _, hth, _, hlbl, hlbr⟩ := HRX.out.at hj2
                  have hil := (List.getElem?_eq_some_iff.1 hj2).1
                  have HJ2 := Lib.hid hj2
                  have HJ3 := Lib.hid hj3
                  have HJ6 := Lib.hid hj6
                  have HHL := Lib.hid hlv
                  rw [hlv, hnT] at hc0
                  rw [hnT] at hil
                  have hilI : (i : Int) < (nT : Int) := by omega
                  have hi0 : (0 : Int) ≤ (i : Int) := by omega
                  have HTH := Lib.hid hth
                  clear hj2 hj3 hj6 hlv hth hnT
                  go_upto_region 21 with fail
                  as_aux_lemma =>
                  refine wp_region_noPanic ?_
                  refine wp_region_held_drew (S := fun W => Kp (r :: lv.ownBlock.toList) wb W) (by kernel_rfl) ((Kp.refl _ wb).drew) (fun hHeld => ?_)
                  have hcw : wb.drew.cell? ⟨r, 0, none⟩ = some (.slice (some ⟨lb, 0, none⟩) nT lc) := hc0
                  have hrx0 := Lib.hid (HRX.out.kp0 ((Kp.refl [] wb).drew))
                  have hk0 : Hid (Kp [] wb wb.drew) := Lib.hid (Kp.refl [] wb).drew
                  generalize wb.drew = W0 at *
                  refine wpAnyH_take (i := 0) (oi := { dst := some 104, op := Op.move (Operand.tmp 0), type := 69, pos := "ref.go:165", after := #[], guard := none }) (v := .pointer (some ⟨r, 0, none⟩)) rfl (by kernel_rfl) (by kernel_rfl) (by kernel_rfl) (fun _ _ _ h => h) (Or.inl ⟨by rfl, by intro w hSw; (try dsimp only at hSw); go_simp⟩) (by assumption) ?_
                  try simp only [Act.put, List.setIfInBounds_toArray, List.set_cons_zero, List.set_cons_succ]
                  refine wpAnyH_take (i := 1) (oi := { dst := some 105, op := Op.nilCheck (Operand.tmp 104), type := 0, pos := "ref.go:165", after := #[{ on := 0, ground := Ground.data }], guard := none }) (v := .pointer (some ⟨r, 0, none⟩)) rfl (by kernel_rfl) (by kernel_rfl) (by kernel_rfl) (fun _ _ _ h => h) (Or.inl ⟨by rfl, by intro w hSw; (try dsimp only at hSw); go_simp⟩) (by assumption) ?_
                  try simp only [Act.put, List.setIfInBounds_toArray, List.set_cons_zero, List.set_cons_succ]
                  refine wpAnyH_take (i := 2) (oi := { dst := some 106, op := Op.fieldAddr 117 (Operand.tmp 105) 0, type := 0, pos := "ref.go:165", after := #[{ on := 1, ground := Ground.data }], guard := none }) (v := .pointer (some ⟨r, 0, none⟩)) rfl (by kernel_rfl) (by kernel_rfl) (by kernel_rfl) (fun _ _ _ h => h) (Or.inl ⟨by rfl, by intro w hSw; (try dsimp only at hSw); go_simp⟩) (by assumption) ?_
                  try simp only [Act.put, List.setIfInBounds_toArray, List.set_cons_zero, List.set_cons_succ]
                  refine wpAnyH_take (i := 4) (oi := { dst := some 108, op := Op.move (Operand.tmp 11), type := 3, pos := "ref.go:165", after := #[], guard := none }) (v := .int .i64 (i : Int)) rfl (by kernel_rfl) (by kernel_rfl) (by kernel_rfl) (fun _ _ _ h => h) (Or.inl ⟨by rfl, by intro w hSw; (try dsimp only at hSw); go_simp⟩) (by assumption) ?_
                  try simp only [Act.put, List.setIfInBounds_toArray, List.set_cons_zero, List.set_cons_succ]
                  refine wpAnyH_take (i := 5) (oi := { dst := some 109, op := Op.load 153 (Operand.tmp 12), type := 153, pos := "ref.go:165", after := #[], guard := none }) (v := .agg ([.string sp, .int .u32 qi, .int .i64 (n : Int), .string ss, .slice (some ⟨gi, 0, none⟩) n ci, .slice (some ⟨gt, 0, none⟩) n ct]).toArray) rfl (by kernel_rfl) (by kernel_rfl) (by kernel_rfl) (fun _ _ _ h => h) (yieldsIf_load_mid (by rfl) 153 (.tmp 12) (by rfl) gx 0 (by rfl) ([.string sp, .int .u32 qi, .int .i64 (n : Int), .string ss, .slice (some ⟨gi, 0, none⟩) n ci, .slice (some ⟨gt, 0, none⟩) n ct]) _ (fun w h => HRNG.out w h) Tryd.underlying153 rfl (by kernel_rfl)) (by assumption) ?_
                  try simp only [Act.put, List.setIfInBounds_toArray, List.set_cons_zero, List.set_cons_succ]
                  refine wpAnyH_ready (rs := [3]) (by kernel_rfl) (by simp) ?_
                  refine AllReadyH.cons (o := { dst := some 107, op := Op.load 115 (Operand.tmp 106), type := 115, pos := "ref.go:165", after := #[{ on := 2, ground := Ground.data }], guard := none }) rfl (fun K' hK => ?_) AllReadyH.nil
                  go_simp
                  (try go_simp)
                  refine hK.out _ _ (hHeld) (fun hHeld => ?_)
                  clear hK K'
                  try simp only [Act.put, List.setIfInBounds_toArray, List.set_cons_zero, List.set_cons_succ]
                  refine wpAnyH_take (i := 6) (oi := { dst := some 110, op := Op.indexAddr 115 (Operand.tmp 107) (Operand.tmp 108), type := 0, pos := "ref.go:165", after := #[{ on := 3, ground := Ground.data }, { on := 4, ground := Ground.data }, { on := 0, ground := Ground.phase }, { on := 1, ground := Ground.phase }, { on := 2, ground := Ground.phase }, { on := 3, ground := Ground.phase }, { on := 4, ground := Ground.phase }, { on := 5, ground := Ground.phase }], guard := none }) (v := .pointer (some ⟨lb, i * 6, none⟩)) rfl (by kernel_rfl) (by kernel_rfl) (by kernel_rfl) (fun _ _ _ h => h) (Or.inl ⟨by rfl, by intro w hSw; (try dsimp only at hSw); go_simp⟩) (by assumption) ?_
                  try simp only [Act.put, List.setIfInBounds_toArray, List.set_cons_zero, List.set_cons_succ]
                  refine wpAnyH_ready (rs := [7]) (by kernel_rfl) (by simp) ?_
                  refine AllReadyH.cons (o := { dst := none, op := Op.store 153 (Operand.tmp 110) (Operand.tmp 109), type := 0, pos := "ref.go:165", after := #[{ on := 6, ground := Ground.data }, { on := 5, ground := Ground.data }, { on := 0, ground := Ground.phase }, { on := 1, ground := Ground.phase }, { on := 2, ground := Ground.phase }, { on := 3, ground := Ground.phase }, { on := 4, ground := Ground.phase }, { on := 5, ground := Ground.phase }], guard := none }) rfl (fun K' hK => ?_) AllReadyH.nil
                  refine wp_store_mid 153 (.tmp 110) (.tmp 109) (by rfl) lb (i * 6) #[.string sp, .int .u32 qi, .int .i64 (n : Int), .string ss, .slice (some ⟨gi, 0, none⟩) n ci, .slice (some ⟨gt, 0, none⟩) n ct] (by rfl) (by rfl) ?_ (by kernel_rfl) (by simp [Value.oneCell']) ?_
                  · intro j hj
                    have h1 := (hrx0.out.at HJ2.out)
                    obtain ⟨lb', lc', _, _, hlv', _, _, hth', _, _, _⟩ := h1
                    rw [HHL.out] at hlv'
                    simp only [Value.slice.injEq, Option.some.injEq, Addr.mk.injEq, and_true, true_and] at hlv'
                    obtain ⟨rfl, _⟩ := hlv'
                    exact hth' j hj
                  have kS := kp_setCells lb [.string sp, .int .u32 qi, .int .i64 (n : Int), .string ss, .slice (some ⟨gi, 0, none⟩) n ci, .slice (some ⟨gt, 0, none⟩) n ct] (i * 6) W0
                  have hlbm : lb ∈ r :: lv.ownBlock.toList := by rw [HHL.out]; simp [Value.ownBlock]
                  have kSw : Kp (r :: lv.ownBlock.toList) wb (W0.setCells lb (i * 6) [.string sp, .int .u32 qi, .int .i64 (n : Int), .string ss, .slice (some ⟨gi, 0, none⟩) n ci, .slice (some ⟨gt, 0, none⟩) n ct]) := hHeld.trans kS (fun m hm => by rw [List.mem_singleton] at hm; subst hm; exact .inl hlbm)
                  (try go_simp)
                  refine hK.out _ _ (kSw) (fun hHeld => ?_)
                  clear hK K'
                  try simp only [Act.put, List.setIfInBounds_toArray, List.set_cons_zero, List.set_cons_succ]
                  refine wpAnyH_done (by kernel_rfl) ?_ _
                  refine NoPanic.normal ?_
                  have hst := hrx0.out.setAt (i := i) (e' := ⟨p, q.id, q.sum, pt⟩) (iv := .slice (some ⟨gi, 0, none⟩) n ci) (tv := .slice (some ⟨gt, 0, none⟩) n ct) HJ2.out (by rw [HJ3.out]; rfl) HHL.out (HRPX.out.kp hk0.out (by simp))
                  have hecl : (ecl ⟨p, q.id, q.sum, pt⟩ (.slice (some ⟨gi, 0, none⟩) n ci) (.slice (some ⟨gt, 0, none⟩) n ct)) = [.string sp, .int .u32 qi, .int .i64 (n : Int), .string ss, .slice (some ⟨gi, 0, none⟩) n ci, .slice (some ⟨gt, 0, none⟩) n ct] := by unfold ecl; rw [HSP.out, HSS.out, HQI.out, show pt.length = n from HPTL.out]
                  rw [hecl] at hst
                  have HFI : Hid (AddRes w (W0.setCells lb (i * 6) [.string sp, .int .u32 qi, .int .i64 (n : Int), .string ss, .slice (some ⟨gi, 0, none⟩) n ci, .slice (some ⟨gt, 0, none⟩) n ct]) G r most lv (AddT T p q (i : Int) pt) ∧ RPc (W0.setCells lb (i * 6) [.string sp, .int .u32 qi, .int .i64 (n : Int), .string ss, .slice (some ⟨gi, 0, none⟩) n ci, .slice (some ⟨gt, 0, none⟩) n ct]) (fun b => (G b ∨ (Value.slice pa m pc).ownBlock = some b) ∨ b = gi ∨ b = gt) pt (.slice (some ⟨gi, 0, none⟩) n ci) (.slice (some ⟨gt, 0, none⟩) n ct)) := Lib.hid ⟨⟨_, lv, _, by unfold AddT; rw [if_neg (by omega)]; exact hst, HGD.out.2.2.2, (HKWX.out.mono (by simp)).trans kSw (fun m hm => .inl hm), fun b hb => .inl hb⟩, HRPX.out.kp kSw (fun b hb hG => by rcases List.mem_cons.1 hb with rfl | hb; exact HGD.out.2.1 hG; rw [Option.mem_toList] at hb; exact HGD.out.2.2.1 b hb hG)⟩
                  have HKF := Lib.hid kSw
                  clear kSw hst hecl kS hHeld hlbm hcw hrx0
                  go_wp2_with fail
                  go_meet
                  exact Lib.hid ⟨HFI.out.1, HFI.out.2, HKF.out.heap HROWX.out (HHD.out _ (.inl rfl)), HKF.out.heap HP9X.out (HHD.out _ (.inr rfl))⟩
                · subst hj1
                  have HJ3 := Lib.hid hj3
                  obtain ⟨la, lc, hlv⟩ := HRX.out.form
                  have HHL := Lib.hid hlv
                  rw [hlv, hnT] at hc0
                  rw [hnT] at hlv
                  have HHN := Lib.hid hlv
                  clear hj3 hlv hnT
                  go_upto_region 22 with fail
                  have HFN : Hid (findE T (p, q.id) = none) := Lib.hid (by rcases HJ.out with ⟨i, e, h1, _⟩ | ⟨_, h2, _⟩; omega; exact h2)
                  refine wp_region_noPanic ?_
                  refine wp_region_held_drew (S := fun W => Kp (r :: lv.ownBlock.toList) wb W) (by kernel_rfl) ((Kp.refl _ wb).drew) (fun hHeld => ?_)
                  have hcw : wb.drew.cell? ⟨r, 0, none⟩ = some (.slice la nT lc) := hc0
                  have hrx0 := (HRX.out.kp0 ((Kp.refl [] wb).drew))
                  have hk0 : Hid (Kp [] wb wb.drew) := Lib.hid (Kp.refl [] wb).drew
                  have hf0 := frozen_of_row wb.drew r 0 _ _ hrx0.hr
                  have hecl : (ecl ⟨p, q.id, q.sum, pt⟩ (.slice (some ⟨gi, 0, none⟩) n ci) (.slice (some ⟨gt, 0, none⟩) n ct)) = [.string sp, .int .u32 qi, .int .i64 (n : Int), .string ss, .slice (some ⟨gi, 0, none⟩) n ci, .slice (some ⟨gt, 0, none⟩) n ct] := by unfold ecl; rw [HSP.out, HSS.out, HQI.out, show pt.length = n from HPTL.out]
                  have HECL := Lib.hid hecl
                  clear hecl
                  generalize wb.drew = W0 at *
                  refine wpAnyH_take (i := 0) (oi := { dst := some 111, op := Op.move (Operand.tmp 0), type := 69, pos := "ref.go:167", after := #[], guard := none }) (v := .pointer (some ⟨r, 0, none⟩)) rfl (by kernel_rfl) (by kernel_rfl) (by kernel_rfl) (fun _ _ _ h => h) (Or.inl ⟨by rfl, by intro w hSw; (try dsimp only at hSw); go_simp⟩) (by assumption) ?_
                  try simp only [Act.put, List.setIfInBounds_toArray, List.set_cons_zero, List.set_cons_succ]
                  refine wpAnyH_take (i := 1) (oi := { dst := some 112, op := Op.move (Operand.tmp 0), type := 69, pos := "ref.go:167", after := #[], guard := none }) (v := .pointer (some ⟨r, 0, none⟩)) rfl (by kernel_rfl) (by kernel_rfl) (by kernel_rfl) (fun _ _ _ h => h) (Or.inl ⟨by rfl, by intro w hSw; (try dsimp only at hSw); go_simp⟩) (by assumption) ?_
                  try simp only [Act.put, List.setIfInBounds_toArray, List.set_cons_zero, List.set_cons_succ]
                  refine wpAnyH_take (i := 2) (oi := { dst := some 113, op := Op.nilCheck (Operand.tmp 112), type := 0, pos := "ref.go:167", after := #[{ on := 1, ground := Ground.data }], guard := none }) (v := .pointer (some ⟨r, 0, none⟩)) rfl (by kernel_rfl) (by kernel_rfl) (by kernel_rfl) (fun _ _ _ h => h) (Or.inl ⟨by rfl, by intro w hSw; (try dsimp only at hSw); go_simp⟩) (by assumption) ?_
                  try simp only [Act.put, List.setIfInBounds_toArray, List.set_cons_zero, List.set_cons_succ]
                  refine wpAnyH_take (i := 3) (oi := { dst := some 114, op := Op.fieldAddr 117 (Operand.tmp 113) 0, type := 0, pos := "ref.go:167", after := #[{ on := 2, ground := Ground.data }], guard := none }) (v := .pointer (some ⟨r, 0, none⟩)) rfl (by kernel_rfl) (by kernel_rfl) (by kernel_rfl) (fun _ _ _ h => h) (Or.inl ⟨by rfl, by intro w hSw; (try dsimp only at hSw); go_simp⟩) (by assumption) ?_
                  try simp only [Act.put, List.setIfInBounds_toArray, List.set_cons_zero, List.set_cons_succ]
                  refine wpAnyH_take (i := 5) (oi := { dst := some 116, op := Op.load 153 (Operand.tmp 12), type := 153, pos := "ref.go:167", after := #[], guard := none }) (v := .agg ([.string sp, .int .u32 qi, .int .i64 (n : Int), .string ss, .slice (some ⟨gi, 0, none⟩) n ci, .slice (some ⟨gt, 0, none⟩) n ct]).toArray) rfl (by kernel_rfl) (by kernel_rfl) (by kernel_rfl) (fun _ _ _ h => h) (yieldsIf_load_mid (by rfl) 153 (.tmp 12) (by rfl) gx 0 (by rfl) ([.string sp, .int .u32 qi, .int .i64 (n : Int), .string ss, .slice (some ⟨gi, 0, none⟩) n ci, .slice (some ⟨gt, 0, none⟩) n ct]) _ (fun w h => HRNG.out w h) Tryd.underlying153 rfl (by kernel_rfl)) (by assumption) ?_
                  try simp only [Act.put, List.setIfInBounds_toArray, List.set_cons_zero, List.set_cons_succ]
                  refine wpAnyH_ready (rs := [4, 6]) (by kernel_rfl) (by simp) ?_
                  refine AllReadyH.cons (o := { dst := some 115, op := Op.load 115 (Operand.tmp 114), type := 115, pos := "ref.go:167", after := #[{ on := 3, ground := Ground.data }], guard := none }) rfl (fun K' hK => ?_) (AllReadyH.cons (o := { dst := some 117, op := Op.buildSlice 115 1 #[(0, Operand.tmp 116)], type := 115, pos := "ref.go:167", after := #[{ on := 5, ground := Ground.data }], guard := none }) rfl (fun K' hK => ?_) AllReadyH.nil)
                  · go_simp
                    (try go_simp)
                    refine hK.out _ _ (hHeld) (fun hHeld => ?_)
                    clear hK K'
                    try simp only [Act.put, List.setIfInBounds_toArray, List.set_cons_zero, List.set_cons_succ]
                    refine wpAnyH_ready (rs := [6]) (by kernel_rfl) (by simp) ?_
                    refine AllReadyH.cons (o := { dst := some 117, op := Op.buildSlice 115 1 #[(0, Operand.tmp 116)], type := 115, pos := "ref.go:167", after := #[{ on := 5, ground := Ground.data }], guard := none }) rfl (fun K' hK => ?_) AllReadyH.nil
                    go_simp
                    have kA : Kp [] W0 (W0.alloc (.cells #[.string sp, .int .u32 qi, .int .i64 (n : Int), .string ss, .slice (some ⟨gi, 0, none⟩) n ci, .slice (some ⟨gt, 0, none⟩) n ct] 153)) := (Kp.refl [] W0).alloc _
                    have hsrc : Src6 (W0.alloc (.cells #[.string sp, .int .u32 qi, .int .i64 (n : Int), .string ss, .slice (some ⟨gi, 0, none⟩) n ci, .slice (some ⟨gt, 0, none⟩) n ct] 153)) (.slice (some ⟨W0.heap.size, 0, none⟩) 1 1) 1 [.string sp, .int .u32 qi, .int .i64 (n : Int), .string ss, .slice (some ⟨gi, 0, none⟩) n ci, .slice (some ⟨gt, 0, none⟩) n ct] := by have := src6_lit W0 ⟨p, q.id, q.sum, pt⟩ (.slice (some ⟨gi, 0, none⟩) n ci) (.slice (some ⟨gt, 0, none⟩) n ct); rw [HECL.out] at this; exact this
                    have hcw1 := kA.cell_some hcw (by simp)
                    have hrx1 := hrx0.kp0 kA
                    have hk1 := Lib.hid (hk0.out.trans0 kA)
                    (try go_simp)
                    refine hK.out _ _ (hHeld.trans0 kA) (fun hHeld => ?_)
                    clear hK K'
                    try simp only [Act.put, List.setIfInBounds_toArray, List.set_cons_zero, List.set_cons_succ]
                    clear kA hcw hrx0 hk0 hf0
                    generalize W0.alloc (.cells #[.string sp, .int .u32 qi, .int .i64 (n : Int), .string ss, .slice (some ⟨gi, 0, none⟩) n ci, .slice (some ⟨gt, 0, none⟩) n ct] 153) = W1 at *
                    generalize W0.heap.size = g6 at *
                    refine wpAnyH_ready (rs := [7]) (by kernel_rfl) (by simp) ?_
                    refine AllReadyH.cons (o := { dst := some 118, op := Op.call { callee := Callee.builtin Builtin.append, args := #[Operand.tmp 115, Operand.tmp 117], argTypes := #[115, 115] }, type := 115, pos := "ref.go:167", after := #[{ on := 4, ground := Ground.data }, { on := 6, ground := Ground.data }], guard := none }) rfl (fun K' hK => ?_) AllReadyH.nil
                    refine op_app6 (v := .slice la nT lc) (n := nT) (m := 1) (xs := cs.flatten) (news := [.string sp, .int .u32 qi, .int .i64 (n : Int), .string ss, .slice (some ⟨gi, 0, none⟩) n ci, .slice (some ⟨gt, 0, none⟩) n ct]) (.tmp 115) (.tmp 117) rfl rfl rfl (by have := hrx1.row; rw [HNT.out, HHN.out] at this; exact this) hsrc (by intro u hu; simp only [List.mem_cons, List.not_mem_nil, or_false] at hu; rcases hu with rfl | rfl | rfl | rfl | rfl | rfl <;> rfl) (by omega) ?_
                    intro v7 W7 hr7 hg7 hb7
                    obtain ⟨a7, c7, rfl⟩ := row_form hr7
                    have k7 : Kp lv.ownBlock.toList W1 W7 := Kp.of_grown hg7 (fun k hk => .inl (by rw [HHN.out]; rw [hk]; simp))
                    have hrn : r ∉ lv.ownBlock.toList := fun hm => by rw [Option.mem_toList] at hm; exact HLR.out r hm rfl
                    have hcw7 := k7.cell_some hcw1 hrn
                    have hf7 := frozen_of_row W7 r 0 _ _ (k7.heap hrx1.hr hrn)
                    have HR7 := Lib.hid hr7
                    have HB7 := Lib.hid hb7
                    have HK7b := Lib.hid k7
                    have HRX1 := Lib.hid hrx1
                    have kS7 : Kp (r :: lv.ownBlock.toList) wb W7 := hHeld.trans k7 (fun m hm => .inl (List.mem_cons_of_mem _ hm))
                    clear hr7 hg7 hb7 hsrc hcw1 hrx1 k7 hrn
                    (try go_simp)
                    refine hK.out _ _ (kS7) (fun hHeld => ?_)
                    clear hK K'
                    try simp only [Act.put, List.setIfInBounds_toArray, List.set_cons_zero, List.set_cons_succ]
                    refine wpAnyH_take (i := 8) (oi := { dst := some 119, op := Op.nilCheck (Operand.tmp 111), type := 0, pos := "ref.go:167", after := #[{ on := 0, ground := Ground.data }, { on := 0, ground := Ground.phase }, { on := 1, ground := Ground.phase }, { on := 2, ground := Ground.phase }, { on := 3, ground := Ground.phase }, { on := 4, ground := Ground.phase }, { on := 5, ground := Ground.phase }, { on := 6, ground := Ground.phase }, { on := 7, ground := Ground.phase }], guard := none }) (v := .pointer (some ⟨r, 0, none⟩)) rfl (by kernel_rfl) (by kernel_rfl) (by kernel_rfl) (fun _ _ _ h => h) (Or.inl ⟨by rfl, by intro w hSw; (try dsimp only at hSw); go_simp⟩) (by assumption) ?_
                    try simp only [Act.put, List.setIfInBounds_toArray, List.set_cons_zero, List.set_cons_succ]
                    refine wpAnyH_take (i := 9) (oi := { dst := some 120, op := Op.fieldAddr 117 (Operand.tmp 119) 0, type := 0, pos := "ref.go:167", after := #[{ on := 8, ground := Ground.data }, { on := 0, ground := Ground.phase }, { on := 1, ground := Ground.phase }, { on := 2, ground := Ground.phase }, { on := 3, ground := Ground.phase }, { on := 4, ground := Ground.phase }, { on := 5, ground := Ground.phase }, { on := 6, ground := Ground.phase }, { on := 7, ground := Ground.phase }], guard := none }) (v := .pointer (some ⟨r, 0, none⟩)) rfl (by kernel_rfl) (by kernel_rfl) (by kernel_rfl) (fun _ _ _ h => h) (Or.inl ⟨by rfl, by intro w hSw; (try dsimp only at hSw); go_simp⟩) (by assumption) ?_
                    try simp only [Act.put, List.setIfInBounds_toArray, List.set_cons_zero, List.set_cons_succ]
                    refine wpAnyH_ready (rs := [10]) (by kernel_rfl) (by simp) ?_
                    refine AllReadyH.cons (o := { dst := none, op := Op.store 115 (Operand.tmp 120) (Operand.tmp 118), type := 0, pos := "ref.go:167", after := #[{ on := 9, ground := Ground.data }, { on := 7, ground := Ground.data }, { on := 7, ground := Ground.chain }, { on := 0, ground := Ground.phase }, { on := 1, ground := Ground.phase }, { on := 2, ground := Ground.phase }, { on := 3, ground := Ground.phase }, { on := 4, ground := Ground.phase }, { on := 5, ground := Ground.phase }, { on := 6, ground := Ground.phase }, { on := 7, ground := Ground.phase }], guard := none }) rfl (fun K' hK => ?_) AllReadyH.nil
                    go_simp
                    have kSw : Kp (r :: lv.ownBlock.toList) wb (W7.setCell ⟨r, 0, none⟩ (.slice a7 (nT + 1) c7)) := hHeld.setCell (.inl (by simp)) _
                    (try go_simp)
                    refine hK.out _ _ (kSw) (fun hHeld => ?_)
                    clear hK K'
                    try simp only [Act.put, List.setIfInBounds_toArray, List.set_cons_zero, List.set_cons_succ]
                    refine wpAnyH_done (by kernel_rfl) ?_ _
                    refine NoPanic.normal ?_
                    have hG7 : ∀ b ∈ lv.ownBlock.toList, ¬ ((G b ∨ (Value.slice pa m pc).ownBlock = some b) ∨ b = gi ∨ b = gt) ∧ b ≠ r := fun b hb => by rw [Option.mem_toList] at hb; exact ⟨HGD.out.2.2.1 b hb, HLR.out b hb⟩
                    have hvb : ∀ b, (Value.slice a7 (nT + 1) c7).ownBlock = some b → lv.ownBlock = some b ∨ W1.heap.size ≤ b := fun b hb => by have := HB7.out b hb; rw [← HHN.out] at this; exact this
                    have hrowN : W7.ownsRow 0 153 6 (.slice a7 (nT + 1) c7) (T ++ [(⟨p, q.id, q.sum, pt⟩ : Ent)]).length (cs ++ [([.string sp, .int .u32 qi, .int .i64 (n : Int), .string ss, .slice (some ⟨gi, 0, none⟩) n ci, .slice (some ⟨gt, 0, none⟩) n ct] : List Value)]).flatten := by
                      have h1 := HR7.out
                      rw [List.length_append, HNT.out, List.flatten_append, List.flatten_cons, List.flatten_nil, List.append_nil]
                      exact h1
                    have hglN : ∀ b, (Value.slice a7 (nT + 1) c7).ownBlock = some b → ¬ ((G b ∨ (Value.slice pa m pc).ownBlock = some b) ∨ b = gi ∨ b = gt) := fun b hb hG => by
                      rcases hvb b hb with h1 | h1
                      · exact HGD.out.2.2.1 b h1 hG
                      · have h2 := HGD.out.1 b hG
                        have h3 := hk1.out.size
                        omega
                    have hclN : (cs ++ [([.string sp, .int .u32 qi, .int .i64 (n : Int), .string ss, .slice (some ⟨gi, 0, none⟩) n ci, .slice (some ⟨gt, 0, none⟩) n ct] : List Value)]).length = (T ++ [(⟨p, q.id, q.sum, pt⟩ : Ent)]).length := by
                      rw [List.length_append, List.length_append, HRX1.out.cl]
                      rfl
                    have hceN : ∀ (j : Nat) (c : List Value) (e : Ent), (cs ++ [([.string sp, .int .u32 qi, .int .i64 (n : Int), .string ss, .slice (some ⟨gi, 0, none⟩) n ci, .slice (some ⟨gt, 0, none⟩) n ct] : List Value)])[j]? = some c → (T ++ [(⟨p, q.id, q.sum, pt⟩ : Ent)])[j]? = some e → ∃ iv tv, c = ecl e iv tv ∧ RPc W1 (fun b => (G b ∨ (Value.slice pa m pc).ownBlock = some b) ∨ b = gi ∨ b = gt) e.parts iv tv := fun j c e hc he => by
                      by_cases hj : j < T.length
                      · rw [List.getElem?_append_left (by rw [HRX1.out.cl]; exact hj)] at hc
                        rw [List.getElem?_append_left hj] at he
                        exact HRX1.out.ce j c e hc he
                      · rw [List.getElem?_append_right (by rw [HRX1.out.cl]; omega)] at hc
                        rw [List.getElem?_append_right (by omega)] at he
                        have hj0 : j - T.length = 0 := by have := (List.getElem?_eq_some_iff.1 he).1; simp at this; omega
                        rw [HRX1.out.cl, hj0] at hc
                        rw [hj0] at he
                        have he1 : (⟨p, q.id, q.sum, pt⟩ : Ent) = e := by simpa using he
                        have hc1 : ([.string sp, .int .u32 qi, .int .i64 (n : Int), .string ss, .slice (some ⟨gi, 0, none⟩) n ci, .slice (some ⟨gt, 0, none⟩) n ct] : List Value) = c := Option.some.inj hc
                        subst he1
                        rw [← hc1]
                        exact ⟨_, _, HECL.out.symm, HRPX.out.kp hk1.out (by simp)⟩
                    have hndN : ((T ++ [(⟨p, q.id, q.sum, pt⟩ : Ent)]).map Ent.ky).Nodup := by
                      rw [List.map_append]
                      refine List.nodup_append.2 ⟨HRX1.out.nd, by simp, fun a ha b hb e => ?_⟩
                      rw [List.map_singleton, List.mem_singleton] at hb
                      subst e
                      rw [hb] at ha
                      exact find_none HFN.out ha
                    have hlnN : ((T ++ [(⟨p, q.id, q.sum, pt⟩ : Ent)]).length : Int) ≤ most := by
                      rw [List.length_append]
                      have h1 := HJ3.out
                      have h2 : [(⟨p, q.id, q.sum, pt⟩ : Ent)].length = 1 := rfl
                      omega
                    have hput := HRX1.out.put2 HK7b.out hG7 hrowN hglN hclN hceN hndN hlnN
                    clear hrowN hglN hclN hceN hndN hlnN
                    have HFI : Hid (AddRes w (W7.setCell ⟨r, 0, none⟩ (.slice a7 (nT + 1) c7)) G r most lv (AddT T p q (-1) pt) ∧ RPc (W7.setCell ⟨r, 0, none⟩ (.slice a7 (nT + 1) c7)) (fun b => (G b ∨ (Value.slice pa m pc).ownBlock = some b) ∨ b = gi ∨ b = gt) pt (.slice (some ⟨gi, 0, none⟩) n ci) (.slice (some ⟨gt, 0, none⟩) n ct)) := Lib.hid ⟨⟨_, _, _, by unfold AddT; rw [if_pos rfl]; exact hput, HGD.out.2.2.2, (HKWX.out.mono (by simp)).trans kSw (fun m hm => .inl hm), fun b hb => by rcases hvb b hb with h1 | h1; exact .inl h1; exact .inr (Nat.le_trans HKWX.out.size (Nat.le_trans hk1.out.size h1))⟩, HRPX.out.kp kSw (fun b hb hG => by rcases List.mem_cons.1 hb with rfl | hb; exact HGD.out.2.1 hG; rw [Option.mem_toList] at hb; exact HGD.out.2.2.1 b hb hG)⟩
                    have HKF := Lib.hid kSw
                    clear kSw kS7 hput hvb hG7 hHeld hcw7 hf7
                    go_wp2_with fail
                    go_meet
                    exact Lib.hid ⟨HFI.out.1, HFI.out.2, HKF.out.heap HROWX.out (HHD.out _ (.inl rfl)), HKF.out.heap HP9X.out (HHD.out _ (.inr rfl))⟩
                  · go_simp
                    have kA : Kp [] W0 (W0.alloc (.cells #[.string sp, .int .u32 qi, .int .i64 (n : Int), .string ss, .slice (some ⟨gi, 0, none⟩) n ci, .slice (some ⟨gt, 0, none⟩) n ct] 153)) := (Kp.refl [] W0).alloc _
                    have hsrc : Src6 (W0.alloc (.cells #[.string sp, .int .u32 qi, .int .i64 (n : Int), .string ss, .slice (some ⟨gi, 0, none⟩) n ci, .slice (some ⟨gt, 0, none⟩) n ct] 153)) (.slice (some ⟨W0.heap.size, 0, none⟩) 1 1) 1 [.string sp, .int .u32 qi, .int .i64 (n : Int), .string ss, .slice (some ⟨gi, 0, none⟩) n ci, .slice (some ⟨gt, 0, none⟩) n ct] := by have := src6_lit W0 ⟨p, q.id, q.sum, pt⟩ (.slice (some ⟨gi, 0, none⟩) n ci) (.slice (some ⟨gt, 0, none⟩) n ct); rw [HECL.out] at this; exact this
                    have hcw1 := kA.cell_some hcw (by simp)
                    have hrx1 := hrx0.kp0 kA
                    have hk1 := Lib.hid (hk0.out.trans0 kA)
                    (try go_simp)
                    refine hK.out _ _ (hHeld.trans0 kA) (fun hHeld => ?_)
                    clear hK K'
                    try simp only [Act.put, List.setIfInBounds_toArray, List.set_cons_zero, List.set_cons_succ]
                    clear kA hcw hrx0 hk0 hf0
                    generalize W0.alloc (.cells #[.string sp, .int .u32 qi, .int .i64 (n : Int), .string ss, .slice (some ⟨gi, 0, none⟩) n ci, .slice (some ⟨gt, 0, none⟩) n ct] 153) = W1 at *
                    generalize W0.heap.size = g6 at *
                    refine wpAnyH_ready (rs := [4]) (by kernel_rfl) (by simp) ?_
                    refine AllReadyH.cons (o := { dst := some 115, op := Op.load 115 (Operand.tmp 114), type := 115, pos := "ref.go:167", after := #[{ on := 3, ground := Ground.data }], guard := none }) rfl (fun K' hK => ?_) AllReadyH.nil
                    go_simp
                    (try go_simp)
                    refine hK.out _ _ (hHeld) (fun hHeld => ?_)
                    clear hK K'
                    try simp only [Act.put, List.setIfInBounds_toArray, List.set_cons_zero, List.set_cons_succ]
                    refine wpAnyH_ready (rs := [7]) (by kernel_rfl) (by simp) ?_
                    refine AllReadyH.cons (o := { dst := some 118, op := Op.call { callee := Callee.builtin Builtin.append, args := #[Operand.tmp 115, Operand.tmp 117], argTypes := #[115, 115] }, type := 115, pos := "ref.go:167", after := #[{ on := 4, ground := Ground.data }, { on := 6, ground := Ground.data }], guard := none }) rfl (fun K' hK => ?_) AllReadyH.nil
                    refine op_app6 (v := .slice la nT lc) (n := nT) (m := 1) (xs := cs.flatten) (news := [.string sp, .int .u32 qi, .int .i64 (n : Int), .string ss, .slice (some ⟨gi, 0, none⟩) n ci, .slice (some ⟨gt, 0, none⟩) n ct]) (.tmp 115) (.tmp 117) rfl rfl rfl (by have := hrx1.row; rw [HNT.out, HHN.out] at this; exact this) hsrc (by intro u hu; simp only [List.mem_cons, List.not_mem_nil, or_false] at hu; rcases hu with rfl | rfl | rfl | rfl | rfl | rfl <;> rfl) (by omega) ?_
                    intro v7 W7 hr7 hg7 hb7
                    obtain ⟨a7, c7, rfl⟩ := row_form hr7
                    have k7 : Kp lv.ownBlock.toList W1 W7 := Kp.of_grown hg7 (fun k hk => .inl (by rw [HHN.out]; rw [hk]; simp))
                    have hrn : r ∉ lv.ownBlock.toList := fun hm => by rw [Option.mem_toList] at hm; exact HLR.out r hm rfl
                    have hcw7 := k7.cell_some hcw1 hrn
                    have hf7 := frozen_of_row W7 r 0 _ _ (k7.heap hrx1.hr hrn)
                    have HR7 := Lib.hid hr7
                    have HB7 := Lib.hid hb7
                    have HK7b := Lib.hid k7
                    have HRX1 := Lib.hid hrx1
                    have kS7 : Kp (r :: lv.ownBlock.toList) wb W7 := hHeld.trans k7 (fun m hm => .inl (List.mem_cons_of_mem _ hm))
                    clear hr7 hg7 hb7 hsrc hcw1 hrx1 k7 hrn
                    (try go_simp)
                    refine hK.out _ _ (kS7) (fun hHeld => ?_)
                    clear hK K'
                    try simp only [Act.put, List.setIfInBounds_toArray, List.set_cons_zero, List.set_cons_succ]
                    refine wpAnyH_take (i := 8) (oi := { dst := some 119, op := Op.nilCheck (Operand.tmp 111), type := 0, pos := "ref.go:167", after := #[{ on := 0, ground := Ground.data }, { on := 0, ground := Ground.phase }, { on := 1, ground := Ground.phase }, { on := 2, ground := Ground.phase }, { on := 3, ground := Ground.phase }, { on := 4, ground := Ground.phase }, { on := 5, ground := Ground.phase }, { on := 6, ground := Ground.phase }, { on := 7, ground := Ground.phase }], guard := none }) (v := .pointer (some ⟨r, 0, none⟩)) rfl (by kernel_rfl) (by kernel_rfl) (by kernel_rfl) (fun _ _ _ h => h) (Or.inl ⟨by rfl, by intro w hSw; (try dsimp only at hSw); go_simp⟩) (by assumption) ?_
                    try simp only [Act.put, List.setIfInBounds_toArray, List.set_cons_zero, List.set_cons_succ]
                    refine wpAnyH_take (i := 9) (oi := { dst := some 120, op := Op.fieldAddr 117 (Operand.tmp 119) 0, type := 0, pos := "ref.go:167", after := #[{ on := 8, ground := Ground.data }, { on := 0, ground := Ground.phase }, { on := 1, ground := Ground.phase }, { on := 2, ground := Ground.phase }, { on := 3, ground := Ground.phase }, { on := 4, ground := Ground.phase }, { on := 5, ground := Ground.phase }, { on := 6, ground := Ground.phase }, { on := 7, ground := Ground.phase }], guard := none }) (v := .pointer (some ⟨r, 0, none⟩)) rfl (by kernel_rfl) (by kernel_rfl) (by kernel_rfl) (fun _ _ _ h => h) (Or.inl ⟨by rfl, by intro w hSw; (try dsimp only at hSw); go_simp⟩) (by assumption) ?_
                    try simp only [Act.put, List.setIfInBounds_toArray, List.set_cons_zero, List.set_cons_succ]
                    refine wpAnyH_ready (rs := [10]) (by kernel_rfl) (by simp) ?_
                    refine AllReadyH.cons (o := { dst := none, op := Op.store 115 (Operand.tmp 120) (Operand.tmp 118), type := 0, pos := "ref.go:167", after := #[{ on := 9, ground := Ground.data }, { on := 7, ground := Ground.data }, { on := 7, ground := Ground.chain }, { on := 0, ground := Ground.phase }, { on := 1, ground := Ground.phase }, { on := 2, ground := Ground.phase }, { on := 3, ground := Ground.phase }, { on := 4, ground := Ground.phase }, { on := 5, ground := Ground.phase }, { on := 6, ground := Ground.phase }, { on := 7, ground := Ground.phase }], guard := none }) rfl (fun K' hK => ?_) AllReadyH.nil
                    go_simp
                    have kSw : Kp (r :: lv.ownBlock.toList) wb (W7.setCell ⟨r, 0, none⟩ (.slice a7 (nT + 1) c7)) := hHeld.setCell (.inl (by simp)) _
                    (try go_simp)
                    refine hK.out _ _ (kSw) (fun hHeld => ?_)
                    clear hK K'
                    try simp only [Act.put, List.setIfInBounds_toArray, List.set_cons_zero, List.set_cons_succ]
                    refine wpAnyH_done (by kernel_rfl) ?_ _
                    refine NoPanic.normal ?_
                    have hG7 : ∀ b ∈ lv.ownBlock.toList, ¬ ((G b ∨ (Value.slice pa m pc).ownBlock = some b) ∨ b = gi ∨ b = gt) ∧ b ≠ r := fun b hb => by rw [Option.mem_toList] at hb; exact ⟨HGD.out.2.2.1 b hb, HLR.out b hb⟩
                    have hvb : ∀ b, (Value.slice a7 (nT + 1) c7).ownBlock = some b → lv.ownBlock = some b ∨ W1.heap.size ≤ b := fun b hb => by have := HB7.out b hb; rw [← HHN.out] at this; exact this
                    have hrowN : W7.ownsRow 0 153 6 (.slice a7 (nT + 1) c7) (T ++ [(⟨p, q.id, q.sum, pt⟩ : Ent)]).length (cs ++ [([.string sp, .int .u32 qi, .int .i64 (n : Int), .string ss, .slice (some ⟨gi, 0, none⟩) n ci, .slice (some ⟨gt, 0, none⟩) n ct] : List Value)]).flatten := by
                      have h1 := HR7.out
                      rw [List.length_append, HNT.out, List.flatten_append, List.flatten_cons, List.flatten_nil, List.append_nil]
                      exact h1
                    have hglN : ∀ b, (Value.slice a7 (nT + 1) c7).ownBlock = some b → ¬ ((G b ∨ (Value.slice pa m pc).ownBlock = some b) ∨ b = gi ∨ b = gt) := fun b hb hG => by
                      rcases hvb b hb with h1 | h1
                      · exact HGD.out.2.2.1 b h1 hG
                      · have h2 := HGD.out.1 b hG
                        have h3 := hk1.out.size
                        omega
                    have hclN : (cs ++ [([.string sp, .int .u32 qi, .int .i64 (n : Int), .string ss, .slice (some ⟨gi, 0, none⟩) n ci, .slice (some ⟨gt, 0, none⟩) n ct] : List Value)]).length = (T ++ [(⟨p, q.id, q.sum, pt⟩ : Ent)]).length := by
                      rw [List.length_append, List.length_append, HRX1.out.cl]
                      rfl
                    have hceN : ∀ (j : Nat) (c : List Value) (e : Ent), (cs ++ [([.string sp, .int .u32 qi, .int .i64 (n : Int), .string ss, .slice (some ⟨gi, 0, none⟩) n ci, .slice (some ⟨gt, 0, none⟩) n ct] : List Value)])[j]? = some c → (T ++ [(⟨p, q.id, q.sum, pt⟩ : Ent)])[j]? = some e → ∃ iv tv, c = ecl e iv tv ∧ RPc W1 (fun b => (G b ∨ (Value.slice pa m pc).ownBlock = some b) ∨ b = gi ∨ b = gt) e.parts iv tv := fun j c e hc he => by
                      by_cases hj : j < T.length
                      · rw [List.getElem?_append_left (by rw [HRX1.out.cl]; exact hj)] at hc
                        rw [List.getElem?_append_left hj] at he
                        exact HRX1.out.ce j c e hc he
                      · rw [List.getElem?_append_right (by rw [HRX1.out.cl]; omega)] at hc
                        rw [List.getElem?_append_right (by omega)] at he
                        have hj0 : j - T.length = 0 := by have := (List.getElem?_eq_some_iff.1 he).1; simp at this; omega
                        rw [HRX1.out.cl, hj0] at hc
                        rw [hj0] at he
                        have he1 : (⟨p, q.id, q.sum, pt⟩ : Ent) = e := by simpa using he
                        have hc1 : ([.string sp, .int .u32 qi, .int .i64 (n : Int), .string ss, .slice (some ⟨gi, 0, none⟩) n ci, .slice (some ⟨gt, 0, none⟩) n ct] : List Value) = c := Option.some.inj hc
                        subst he1
                        rw [← hc1]
                        exact ⟨_, _, HECL.out.symm, HRPX.out.kp hk1.out (by simp)⟩
                    have hndN : ((T ++ [(⟨p, q.id, q.sum, pt⟩ : Ent)]).map Ent.ky).Nodup := by
                      rw [List.map_append]
                      refine List.nodup_append.2 ⟨HRX1.out.nd, by simp, fun a ha b hb e => ?_⟩
                      rw [List.map_singleton, List.mem_singleton] at hb
                      subst e
                      rw [hb] at ha
                      exact find_none HFN.out ha
                    have hlnN : ((T ++ [(⟨p, q.id, q.sum, pt⟩ : Ent)]).length : Int) ≤ most := by
                      rw [List.length_append]
                      have h1 := HJ3.out
                      have h2 : [(⟨p, q.id, q.sum, pt⟩ : Ent)].length = 1 := rfl
                      omega
                    have hput := HRX1.out.put2 HK7b.out hG7 hrowN hglN hclN hceN hndN hlnN
                    clear hrowN hglN hclN hceN hndN hlnN
                    have HFI : Hid (AddRes w (W7.setCell ⟨r, 0, none⟩ (.slice a7 (nT + 1) c7)) G r most lv (AddT T p q (-1) pt) ∧ RPc (W7.setCell ⟨r, 0, none⟩ (.slice a7 (nT + 1) c7)) (fun b => (G b ∨ (Value.slice pa m pc).ownBlock = some b) ∨ b = gi ∨ b = gt) pt (.slice (some ⟨gi, 0, none⟩) n ci) (.slice (some ⟨gt, 0, none⟩) n ct)) := Lib.hid ⟨⟨_, _, _, by unfold AddT; rw [if_pos rfl]; exact hput, HGD.out.2.2.2, (HKWX.out.mono (by simp)).trans kSw (fun m hm => .inl hm), fun b hb => by rcases hvb b hb with h1 | h1; exact .inl h1; exact .inr (Nat.le_trans HKWX.out.size (Nat.le_trans hk1.out.size h1))⟩, HRPX.out.kp kSw (fun b hb hG => by rcases List.mem_cons.1 hb with rfl | hb; exact HGD.out.2.1 hG; rw [Option.mem_toList] at hb; exact HGD.out.2.2.1 b hb hG)⟩
                    have HKF := Lib.hid kSw
                    clear kSw kS7 hput hvb hG7 hHeld hcw7 hf7
                    go_wp2_with fail
                    go_meet
                    exact Lib.hid ⟨HFI.out.1, HFI.out.2, HKF.out.heap HROWX.out (HHD.out _ (.inl rfl)), HKF.out.heap HP9X.out (HHD.out _ (.inr rfl))⟩
              case rest =>
                have HC := hcut
                clear hcut
                go_upto_region 23 with fail
                have HRNG : Hid (∀ W, Kp [] wc W → W.rangeAt gx 0 [.string sp, .int .u32 qi, .int .i64 (n : Int), .string ss, .slice (some ⟨gi, 0, none⟩) n ci, .slice (some ⟨gt, 0, none⟩) n ct]) := Lib.hid (fun W k j v hv => by rw [Nat.zero_add]; refine k.cell_some ?_ (by simp); rw [cell_of_row _ _ j _ _ _ HC.out.2.2.1]; simpa using hv)
                have HWH : Hid (∀ W, Kp [] wc W → Calls Tryd.prog 78 #[.agg #[.string sp, .int .u32 qi, .int .i64 (n : Int), .string ss, .slice (some ⟨gi, 0, none⟩) n ci, .slice (some ⟨gt, 0, none⟩) n ct]] W fun e w' => e = .returned (.bool (decide ((missL pt).length = 0))) ∧ Kp [] W w') := Lib.hid (fun W k => rwhole_e sp ss qi (n : Int) (HC.out.2.1.kp k (by simp)))
                have hp0 : ∀ W, Kp [] wc W → W.cell? ⟨g9, 0, none⟩ = some (.int .u32 qi) := fun W k => k.cell_some (by rw [cell_of_row _ _ 0 _ _ _ HC.out.2.2.2]; rfl) (by simp)
                obtain ⟨bw, hbw⟩ : ∃ bw, decide ((missL pt).length = 0) = bw := ⟨_, rfl⟩
                have HBW := Lib.hid hbw
                rw [hbw] at HWH
                clear hbw
                refine wp_region_noPanic ?_
                refine wp_region_held_drew (S := fun W => Kp [] wc W) (by kernel_rfl) ((Kp.refl [] wc).drew) (fun hHeld => ?_)
                generalize wc.drew = W0 at *
                refine wpAnyH_take (i := 0) (oi := { dst := some 121, op := Op.fieldAddr 147 (Operand.tmp 9) 0, type := 0, pos := "ref.go:169", after := #[], guard := none }) (v := .pointer (some ⟨g9, 0, none⟩)) rfl (by kernel_rfl) (by kernel_rfl) (by kernel_rfl) (fun _ _ _ h => h) (Or.inl ⟨by rfl, by intro w hSw; (try dsimp only at hSw); go_simp⟩) (by assumption) ?_
                try simp only [Act.put, List.setIfInBounds_toArray, List.set_cons_zero, List.set_cons_succ]
                refine wpAnyH_take (i := 1) (oi := { dst := some 122, op := Op.load 48 (Operand.tmp 121), type := 48, pos := "ref.go:169", after := #[{ on := 0, ground := Ground.data }], guard := none }) (v := .int .u32 qi) rfl (by kernel_rfl) (by kernel_rfl) (by kernel_rfl) (fun _ _ _ h => h) (Or.inl ⟨by rfl, by intro w hSw; (try dsimp only at hSw); have hcx := hp0 _ hSw; go_simp⟩) (by assumption) ?_
                try simp only [Act.put, List.setIfInBounds_toArray, List.set_cons_zero, List.set_cons_succ]
                refine wpAnyH_take (i := 2) (oi := { dst := some 123, op := Op.load 153 (Operand.tmp 12), type := 153, pos := "ref.go:169", after := #[], guard := none }) (v := .agg ([.string sp, .int .u32 qi, .int .i64 (n : Int), .string ss, .slice (some ⟨gi, 0, none⟩) n ci, .slice (some ⟨gt, 0, none⟩) n ct]).toArray) rfl (by kernel_rfl) (by kernel_rfl) (by kernel_rfl) (fun _ _ _ h => h) (yieldsIf_load_mid (by rfl) 153 (.tmp 12) (by rfl) gx 0 (by rfl) ([.string sp, .int .u32 qi, .int .i64 (n : Int), .string ss, .slice (some ⟨gi, 0, none⟩) n ci, .slice (some ⟨gt, 0, none⟩) n ct]) _ (fun w h => HRNG.out w h) Tryd.underlying153 rfl (by kernel_rfl)) (by assumption) ?_
                try simp only [Act.put, List.setIfInBounds_toArray, List.set_cons_zero, List.set_cons_succ]
                refine wpAnyH_ready (rs := [3]) (by kernel_rfl) (by simp) ?_
                refine AllReadyH.cons (o := { dst := some 124, op := Op.call { callee := Callee.value (Operand.func 78), args := #[Operand.tmp 123], argTypes := #[153] }, type := 4, pos := "ref.go:169", after := #[{ on := 2, ground := Ground.data }], guard := none }) rfl (fun K' hK => ?_) AllReadyH.nil
                go_simp
                refine (HWH.out _ hHeld).mono ?_
                rintro en W1 ⟨rfl, hkA⟩
                have hS1 : Kp [] wc W1 := hHeld.trans0 hkA
                clear hHeld hkA
                (try go_simp)
                refine hK.out _ _ (hS1) (fun hHeld => ?_)
                clear hK K'
                try simp only [Act.put, List.setIfInBounds_toArray, List.set_cons_zero, List.set_cons_succ]
                refine wpAnyH_take (i := 4) (oi := { dst := some 6, op := Op.assign (Operand.tmp 122), type := 48, pos := "ref.go:169", after := #[{ on := 1, ground := Ground.data }, { on := 3, ground := Ground.chain }, { on := 0, ground := Ground.phase }, { on := 1, ground := Ground.phase }, { on := 2, ground := Ground.textOnly Departure.lateStores }, { on := 3, ground := Ground.textOnly Departure.lateStoresUnsure }], guard := none }) (v := .int .u32 qi) rfl (by kernel_rfl) (by kernel_rfl) (by kernel_rfl) (fun _ _ _ h => h) (Or.inl ⟨by rfl, by intro w hSw; (try dsimp only at hSw); go_simp⟩) (by assumption) ?_
                try simp only [Act.put, List.setIfInBounds_toArray, List.set_cons_zero, List.set_cons_succ]
                refine wpAnyH_take (i := 5) (oi := { dst := some 7, op := Op.assign (Operand.tmp 124), type := 4, pos := "ref.go:169", after := #[{ on := 3, ground := Ground.data }, { on := 4, ground := Ground.chain }, { on := 0, ground := Ground.phase }, { on := 1, ground := Ground.phase }, { on := 2, ground := Ground.phase }, { on := 3, ground := Ground.phase }, { on := 4, ground := Ground.phase }], guard := none }) (v := .bool bw) rfl (by kernel_rfl) (by kernel_rfl) (by kernel_rfl) (fun _ _ _ h => h) (Or.inl ⟨by rfl, by intro w hSw; (try dsimp only at hSw); go_simp⟩) (by assumption) ?_
                try simp only [Act.put, List.setIfInBounds_toArray, List.set_cons_zero, List.set_cons_succ]
                refine wpAnyH_take (i := 6) (oi := { dst := some 8, op := Op.assign (Operand.const (Value.int IntKind.i64 0)), type := 3, pos := "ref.go:169", after := #[{ on := 5, ground := Ground.chain }, { on := 0, ground := Ground.phase }, { on := 1, ground := Ground.phase }, { on := 2, ground := Ground.phase }, { on := 3, ground := Ground.phase }, { on := 4, ground := Ground.phase }, { on := 5, ground := Ground.phase }], guard := none }) (v := .int .i64 0) rfl (by kernel_rfl) (by kernel_rfl) (by kernel_rfl) (fun _ _ _ h => h) (Or.inl ⟨by rfl, by intro w hSw; (try dsimp only at hSw); go_simp⟩) (by assumption) ?_
                try simp only [Act.put, List.setIfInBounds_toArray, List.set_cons_zero, List.set_cons_succ]
                refine wpAnyH_done (by kernel_rfl) ?_ _
                refine NoPanic.normal ?_
                have HKE := Lib.hid hHeld
                clear hHeld
                go_wp2_with fail
                go_ret3
                rw [HA.out, HBW.out, HQI.out]
                exact ⟨rfl, HC.out.1.kp0 HKE.out⟩
  · have HA : Hid (addE mk most T p b = ((0, false, 212), T)) := Lib.hid (by unfold addE; rw [if_pos hpe])
    have hd : decide (peerErr p.length = 0) = false := decide_eq_false hpe
    rw [hd] at HNM
    rw [HA.out]
    clear hd hpe h HRD
    generalize strOf p = sp at *
    go_enter Tryd.func54, Tryd.ntmps54
    go_wp2_with (first
      | (go_at_call 74; go_must (refine HNM.out.mono ?_; rintro e w1 ⟨rfl, rfl⟩))
      | fail)
    go_ret3
    exact ⟨rfl, AddRes.same HR.out (Kp.refl _ _)⟩
end
end Go.Proofs.YtkceaepbjdfccaaDoor
