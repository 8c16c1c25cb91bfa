/-
What the readers' calls come to, said of the table; the book's Note and Holds.
-/
import Derived.Test.YtkceaepbjdfccaaWx13
namespace Go.Proofs.Ytkceaepbjdfccaa
open Go.RowKit
set_option maxRecDepth 100000 in
set_option maxHeartbeats 1000000 in
/-- a field of more bytes than any slice has -/
theorem fieldbig_any (B p : Nat) (rv : Value) (b : List UInt8) (s : Rst) (n : Int) (w : World) (hR : Rr w B p rv b s) (hn : 211106232532992 < n) :
    Calls Try.prog 55 #[.pointer (some ⟨p, 0, none⟩), .int .i64 0, .int .i64 n] w fun e w' => ∃ v', e = .returned v' ∧ Own w' w.heap.size 5 v' (bv (fieldL b s 0 n).1) ∧ Rr w' B p rv b (fieldL b s 0 n).2 ∧ Kp [p] w w' := by
  obtain ⟨h0, h1, h2, h3⟩ := hR.cells
  obtain ⟨at_, wh, f⟩ := s
  have hat := hR.hat
  have hbl := hR.hb
  have hfz2 : w.frozen? ⟨p, 2, none⟩ = false := frozen_of_row w p 2 _ _ hR.hp
  have hfz3 : w.frozen? ⟨p, 3, none⟩ = false := frozen_of_row w p 3 _ _ hR.hp
  simp only at h1 h2 h3 hat
  have HR := Lib.hid hR
  clear hR
  by_cases hf : f = 0
  · subst hf
    have hlong : (b.length : Int) - at_ < n := by omega
    have hd0 : decide (n < 0) = false := by simp; omega
    have hd1 : decide ((b.length : Int) - at_ < n) = true := by simpa using hlong
    have hL : fieldL b ⟨at_, wh, 0⟩ 0 n = ([], ⟨at_, at_, 10⟩) := by unfold fieldL; rw [if_neg (by simp), if_neg (by omega), if_pos (by simp only; omega)]
    have HL := Lib.hid hL
    clear hL
    go_enter Try.func55, Try.ntmps55
    go_wp2_with fail
    refine wp_scope_jumps 0 (JumpAt { tmps := #[.pointer (some ⟨p, 0, none⟩), .int .i64 0, .int .i64 n, undef, undef, undef, .slice none 0 0, .int .i64 10, .pointer (some ⟨p, 0, none⟩), .pointer (some ⟨p, 0, none⟩), .pointer (some ⟨p, 3, none⟩), .int .i64 0, .bool false, .int .i64 n, .bool false, .int .i64 n, .pointer (some ⟨p, 0, none⟩), .int .i64 ((b.length : Int) - (at_ : Int)), .int .i64 0, .int .i64 ((b.length : Int) - (at_ : Int)), .bool true, undef, undef, undef, undef, undef, undef, undef, undef, undef, undef, undef, undef, undef, undef, undef, undef, undef, undef, undef, undef, undef, undef, undef, undef, undef, undef, undef, undef, undef, undef, undef, undef, undef, undef, undef, undef, undef, undef], defers := [] } w) (fun _ _ => 0) rfl ?first ?pass
    case first =>
      go_wp2_with fail
      refine (left_any B p rv b _ w HR.out).mono ?_
      rintro e w' ⟨rfl, nn, rfl⟩
      go_wp2_with fail
      refine wp_goto ?_
      exact ⟨rfl, rfl, nn, rfl⟩
    case pass =>
      rintro a' w' ⟨rfl, nn, rfl⟩
      go_wp2_with fail
      go_wp2_with fail
      simp only [Exit.jump]
      go_ret
      have e1 := heap_setCell_same (w.drewN nn) p 2 _ _ (.int .i64 (at_ : Int)) HR.out.hp
      have e2 := heap_setCell_same _ p 3 _ _ (.int .i64 10) e1
      exact ⟨_, rfl, by rw [HL.out]; exact Own.nil _ _ _, by rw [HL.out]; exact HR.out.set ((((Kp.refl [p] w).drewN nn).setCell (.inl (by simp)) _).setCell (.inl (by simp)) _) e2 hat, (((Kp.refl [p] w).drewN nn).setCell (.inl (by simp)) _).setCell (.inl (by simp)) _⟩
  · have hfb : (f != 0) = true := by simpa using hf
    have hL : fieldL b ⟨at_, wh, f⟩ 0 n = ([], ⟨at_, wh, f⟩) := by unfold fieldL; rw [if_pos hf]
    have HL := Lib.hid hL
    clear hL hf
    go_enter Try.func55, Try.ntmps55
    go_wp2_with fail
    go_step3
    go_wp2_with fail
    rw [Exit.noGoto_ret]
    go_ret
    exact ⟨_, rfl, by rw [HL.out]; exact Own.nil _ _ _, by rw [HL.out]; exact HR.out, Kp.refl _ _⟩
set_option maxRecDepth 100000 in
set_option maxHeartbeats 400000 in
theorem rFixedb (B p : Nat) (rv : Value) (b : List UInt8) (s : Rst) (n : Int) (w : World) (hR : Rr w B p rv b s) :
    Calls Try.prog 36 #[.pointer (some ⟨p, 0, none⟩), .int .i64 n] w fun e w' => ∃ v', e = .returned v' ∧ Own w' w.heap.size 5 v' (bv (fieldL b s 0 n).1) ∧ Rr w' B p rv b (fieldL b s 0 n).2 ∧ Kp [p] w w' := by
  by_cases hn : n ≤ 211106232532992
  · exact rFixed_any B p rv b s n w hR hn
  have HR := Lib.hid hR
  clear hR
  go_enter Try.func36, Try.ntmps36
  go_wp2_with fail
  refine (fieldbig_any B p rv b s n w HR.out (by omega)).mono ?_
  rintro e w' ⟨v', rfl, ho, hr, k⟩
  have HO := Lib.hid ho
  have HR2 := Lib.hid hr
  clear ho hr
  go_wp2_with fail
  go_ret
  exact ⟨v', rfl, HO.out, HR2.out, k⟩
theorem fieldL_wh (b : List UInt8) (s : Rst) (n : Int) (h : s.f ≠ 0 → s.wh = s.at_) : (fieldL b s 0 n).2.f ≠ 0 → (fieldL b s 0 n).2.wh = (fieldL b s 0 n).2.at_ := by
  unfold fieldL
  split
  · exact h
  · split
    · intro _; rfl
    · split
      · intro _; rfl
      · intro h0; exact absurd rfl h0
theorem fieldL_wh2 (b : List UInt8) (s : Rst) (n : Int) (h : s.f ≠ 0 → s.wh = s.at_) : (fieldL b s 2 n).2.f ≠ 0 → (fieldL b s 2 n).2.wh = (fieldL b s 2 n).2.at_ := by
  unfold fieldL
  split
  · exact h
  · split
    · intro _; rfl
    · split
      · intro _; rfl
      · intro h0; exact absurd rfl h0
theorem runL_wh (b : List UInt8) (s : Rst) (n : Int) (h : s.f ≠ 0 → s.wh = s.at_) : (runL b s n).2.f ≠ 0 → (runL b s n).2.wh = (runL b s n).2.at_ := by
  unfold runL
  split
  · exact h
  · split
    · intro _; rfl
    · split
      · intro _; rfl
      · exact fieldL_wh2 b s _ h
theorem endL_wh (b : List UInt8) (s : Rst) (h : s.f ≠ 0 → s.wh = s.at_) : (endL b s).f ≠ 0 → (endL b s).wh = (endL b s).at_ := by
  unfold endL
  split
  · intro _; rfl
  · exact h
theorem runL_len (b : List UInt8) (s : Rst) (n : Int) : (runL b s n).1.length ≤ b.length := by
  unfold runL
  split
  · simp
  · split
    · simp
    · split
      · simp
      · exact fieldL_len b s 2 _
section
variable {w0 w w' : World} {o : Nat → Nat} {t : Nat} {C : Nat → Pr} {vs : Nat → Value} {n : Nat}
theorem Fr.one {p i : Nat} (hp : o p = 20 + i) (k : Kp [p] w w') : Fr o [] w w' := ⟨[p], k, fun b hb => .inl (by rw [List.mem_singleton] at hb; subst hb; omega)⟩
theorem rxU8 (h : WX w0 w o t C vs n) (i : Nat) (hi : i < 8) {m : Qs} (hC : C i = CR (some m)) :
    Calls Try.prog 38 #[vs i] w fun r w' => r = .returned (.int .i64 (numL (fieldL m.b m.s 0 1).1)) ∧ WX w0 w' o t (upd C i (CR (some ⟨m.b, (fieldL m.b m.s 0 1).2⟩))) vs n ∧ Fr o [] w w' := by
  obtain ⟨p, B, rv, hv, hp, ho, hB, h1, h2, hR⟩ := h.oR i hi hC
  rw [hv]
  refine (rU8_any B p rv m.b m.s w hR).mono ?_
  rintro r w' ⟨rfl, hr, k⟩
  exact ⟨rfl, h.got i hi hv hp ho hB (fieldL_wh _ _ _ h1) h2 hr k, Fr.one hp k⟩
theorem rxU16 (h : WX w0 w o t C vs n) (i : Nat) (hi : i < 8) {m : Qs} (hC : C i = CR (some m)) :
    Calls Try.prog 39 #[vs i] w fun r w' => r = .returned (.int .i64 (numL (fieldL m.b m.s 0 2).1)) ∧ WX w0 w' o t (upd C i (CR (some ⟨m.b, (fieldL m.b m.s 0 2).2⟩))) vs n ∧ Fr o [] w w' := by
  obtain ⟨p, B, rv, hv, hp, ho, hB, h1, h2, hR⟩ := h.oR i hi hC
  rw [hv]
  refine (rU16_any B p rv m.b m.s w hR).mono ?_
  rintro r w' ⟨rfl, hr, k⟩
  exact ⟨rfl, h.got i hi hv hp ho hB (fieldL_wh _ _ _ h1) h2 hr k, Fr.one hp k⟩
theorem rxU32 (h : WX w0 w o t C vs n) (i : Nat) (hi : i < 8) {m : Qs} (hC : C i = CR (some m)) :
    Calls Try.prog 40 #[vs i] w fun r w' => r = .returned (.int .u32 (numL (fieldL m.b m.s 0 4).1)) ∧ WX w0 w' o t (upd C i (CR (some ⟨m.b, (fieldL m.b m.s 0 4).2⟩))) vs n ∧ Fr o [] w w' := by
  obtain ⟨p, B, rv, hv, hp, ho, hB, h1, h2, hR⟩ := h.oR i hi hC
  rw [hv]
  refine (rU32_any B p rv m.b m.s w hR).mono ?_
  rintro r w' ⟨rfl, hr, k⟩
  exact ⟨rfl, h.got i hi hv hp ho hB (fieldL_wh _ _ _ h1) h2 hr k, Fr.one hp k⟩
theorem rxFixed (h : WX w0 w o t C vs n) (i : Nat) (hi : i < 8) {m : Qs} (hC : C i = CR (some m)) (N : Int) :
    Calls Try.prog 36 #[vs i, .int .i64 N] w fun r w' => ∃ l, r = .returned l ∧ Own w' w.heap.size 5 l (bv (fieldL m.b m.s 0 N).1) ∧ (fieldL m.b m.s 0 N).1.length ≤ 1048576 ∧ WX w0 w' o t (upd C i (CR (some ⟨m.b, (fieldL m.b m.s 0 N).2⟩))) vs n ∧ Fr o [] w w' := by
  obtain ⟨p, B, rv, hv, hp, ho, hB, h1, h2, hR⟩ := h.oR i hi hC
  rw [hv]
  refine (rFixedb B p rv m.b m.s N w hR).mono ?_
  rintro r w' ⟨l, rfl, hl, hr, k⟩
  exact ⟨l, rfl, hl, Nat.le_trans (fieldL_len _ _ _ _) h2, h.got i hi hv hp ho hB (fieldL_wh _ _ _ h1) h2 hr k, Fr.one hp k⟩
theorem rxRun (h : WX w0 w o t C vs n) (i : Nat) (hi : i < 8) {m : Qs} (hC : C i = CR (some m)) (N : Int) :
    Calls Try.prog 37 #[vs i, .int .i64 N] w fun r w' => ∃ l, r = .returned l ∧ Own w' w.heap.size 5 l (bv (runL m.b m.s N).1) ∧ (runL m.b m.s N).1.length ≤ 1048576 ∧ WX w0 w' o t (upd C i (CR (some ⟨m.b, (runL m.b m.s N).2⟩))) vs n ∧ Fr o [] w w' := by
  obtain ⟨p, B, rv, hv, hp, ho, hB, h1, h2, hR⟩ := h.oR i hi hC
  rw [hv]
  refine (rRun_any B p rv m.b m.s N w hR).mono ?_
  rintro r w' ⟨l, rfl, hl, hr, k⟩
  exact ⟨l, rfl, hl, Nat.le_trans (runL_len _ _ _) h2, h.got i hi hv hp ho hB (runL_wh _ _ _ h1) h2 hr k, Fr.one hp k⟩
theorem rxEnd (h : WX w0 w o t C vs n) (i : Nat) (hi : i < 8) {m : Qs} (hC : C i = CR (some m)) :
    Calls Try.prog 27 #[vs i] w fun r w' => r = .returned (.tuple #[]) ∧ WX w0 w' o t (upd C i (CR (some ⟨m.b, endL m.b m.s⟩))) vs n ∧ Fr o [] w w' := by
  obtain ⟨p, B, rv, hv, hp, ho, hB, h1, h2, hR⟩ := h.oR i hi hC
  rw [hv]
  refine (rEnd_any B p rv m.b m.s w hR).mono ?_
  rintro r w' ⟨rfl, hr, k⟩
  exact ⟨rfl, h.got i hi hv hp ho hB (endL_wh _ _ h1) h2 hr k, Fr.one hp k⟩
theorem rxFault (h : WX w0 w o t C vs n) (i : Nat) (hi : i < 8) {m : Qs} (hC : C i = CR (some m)) :
    Calls Try.prog 28 #[vs i] w fun r w' => r = .returned (.tuple #[.int .i64 (if m.s.f = 0 then 0 else (m.s.at_ : Int)), .int .i64 m.s.f]) ∧ ∃ k, w' = w.drewN k := by
  obtain ⟨p, B, rv, hv, hp, ho, hB, h1, h2, hR⟩ := h.oR i hi hC
  rw [hv]
  by_cases hf : m.s.f = 0
  · refine (rFault_ok B p rv m.b m.s w hR hf).mono ?_
    rintro r w' ⟨rfl, rfl⟩
    exact ⟨by rw [if_pos hf, hf], 0, rfl⟩
  · refine (rFault_bad B p rv m.b m.s w hR hf).mono ?_
    rintro r w' ⟨rfl, k⟩
    exact ⟨by rw [if_neg hf, h1 hf], k⟩
theorem rxLeft (h : WX w0 w o t C vs n) (i : Nat) (hi : i < 8) {m : Qs} (hC : C i = CR (some m)) :
    Calls Try.prog 26 #[vs i] w fun r w' => r = .returned (.int .i64 ((m.b.length : Int) - m.s.at_)) ∧ ∃ k, w' = w.drewN k := by
  obtain ⟨p, B, rv, hv, hp, ho, hB, h1, h2, hR⟩ := h.oR i hi hC
  rw [hv]
  exact left_any B p rv m.b m.s w hR
theorem qxNum (h : WX w0 w o t C vs n) (i : Nat) (hi : i < 8) {m : Qs} (hC : C i = CQ (some m)) (k : Nat) (hk : k ≤ 4) :
    Calls Try.prog 68 #[vs i, .int .i64 (k : Int)] w fun r w' => r = .returned (.int .i64 (numL (fieldL m.b m.s 0 k).1)) ∧ WX w0 w' o t (upd C i (CQ (some ⟨m.b, (fieldL m.b m.s 0 k).2⟩))) vs n ∧ Fr o [] w w' := by
  obtain ⟨p, B, rv, hv, hp, ho, hB, h2, hR⟩ := h.oQ i hi hC
  rw [hv]
  refine (qnum_any B p rv m.b m.s k hk w hR).mono ?_
  rintro r w' ⟨rfl, hr, k⟩
  exact ⟨rfl, h.gotQ i hi hv hp ho hB h2 hr k, Fr.one hp k⟩
theorem qxFixed (h : WX w0 w o t C vs n) (i : Nat) (hi : i < 8) {m : Qs} (hC : C i = CQ (some m)) (N : Int) :
    Calls Try.prog 69 #[vs i, .int .i64 N] w fun r w' => ∃ l, r = .returned l ∧ Rd w' l (bv (fieldL m.b m.s 0 N).1) ∧ WX w0 w' o t (upd C i (CQ (some ⟨m.b, (fieldL m.b m.s 0 N).2⟩))) vs n ∧ Fr o [] w w' := by
  obtain ⟨p, B, rv, hv, hp, ho, hB, h2, hR⟩ := h.oQ i hi hC
  rw [hv]
  refine (qfixed_any B p rv m.b m.s N w hR).mono ?_
  rintro r w' ⟨l, rfl, hl, hr, k⟩
  refine ⟨l, rfl, hl.rd, h.gotQ i hi hv hp ho hB h2 hr k, Fr.one hp k⟩
theorem qxRun (h : WX w0 w o t C vs n) (i : Nat) (hi : i < 8) {m : Qs} (hC : C i = CQ (some m)) (N : Int) :
    Calls Try.prog 70 #[vs i, .int .i64 N] w fun r w' => ∃ l, r = .returned l ∧ Rd w' l (bv (runL m.b m.s N).1) ∧ WX w0 w' o t (upd C i (CQ (some ⟨m.b, (runL m.b m.s N).2⟩))) vs n ∧ Fr o [] w w' := by
  obtain ⟨p, B, rv, hv, hp, ho, hB, h2, hR⟩ := h.oQ i hi hC
  rw [hv]
  refine (qrun_any B p rv m.b m.s N w hR).mono ?_
  rintro r w' ⟨l, rfl, hl, hr, k⟩
  refine ⟨l, rfl, hl.rd, h.gotQ i hi hv hp ho hB h2 hr k, Fr.one hp k⟩
theorem qxEnd (h : WX w0 w o t C vs n) (i : Nat) (hi : i < 8) {m : Qs} (hC : C i = CQ (some m)) :
    Calls Try.prog 71 #[vs i] w fun r w' => r = .returned (.tuple #[]) ∧ WX w0 w' o t (upd C i (CQ (some ⟨m.b, endL m.b m.s⟩))) vs n ∧ Fr o [] w w' := by
  obtain ⟨p, B, rv, hv, hp, ho, hB, h2, hR⟩ := h.oQ i hi hC
  rw [hv]
  refine (qend_any B p rv m.b m.s w hR).mono ?_
  rintro r w' ⟨rfl, hr, k⟩
  exact ⟨rfl, h.gotQ i hi hv hp ho hB h2 hr k, Fr.one hp k⟩
theorem qxFault (h : WX w0 w o t C vs n) (i : Nat) (hi : i < 8) {m : Qs} (hC : C i = CQ (some m)) :
    Calls Try.prog 72 #[vs i] w fun r w' => r = .returned (.tuple #[.int .i64 (if m.s.f = 0 then 0 else (m.s.at_ : Int)), .int .i64 m.s.f]) ∧ ∃ k, w' = w.drewN k := by
  obtain ⟨p, B, rv, hv, hp, ho, hB, h2, hR⟩ := h.oQ i hi hC
  rw [hv]
  by_cases hf : m.s.f = 0
  · refine (qfault_ok B p rv m.b m.s w hR hf).mono ?_
    rintro r w' ⟨rfl, rfl⟩
    exact ⟨by rw [if_pos hf, hf], 0, rfl⟩
  · refine (qfault_bad B p rv m.b m.s w hR hf).mono ?_
    rintro r w' ⟨rfl, k⟩
    exact ⟨by rw [if_neg hf], k⟩
theorem qxLeft (h : WX w0 w o t C vs n) (i : Nat) (hi : i < 8) {m : Qs} (hC : C i = CQ (some m)) :
    Calls Try.prog 73 #[vs i] w fun r w' => r = .returned (.int .i64 ((m.b.length : Int) - m.s.at_)) ∧ ∃ k, w' = w.drewN k := by
  obtain ⟨p, B, rv, hv, hp, ho, hB, h2, hR⟩ := h.oQ i hi hC
  rw [hv]
  exact qleft_any B p rv m.b m.s w hR
/-- the book notes bytes that nobody had -/
theorem noteX (h : WX w0 w o t C vs n) (l : Value) (ls : List UInt8) {B : Nat} (hl : Own w B 5 l (bv ls)) (hB : w0.heap.size ≤ B) (hz : ∀ b ∈ ob l, o b = 0) (hls : ls.length ≤ 3145800) (hn : n ≤ 900) :
    Calls Try.prog 64 #[.pointer (some ⟨t, 8, none⟩), l] w fun e w' => e = .returned (.tuple #[]) ∧ ∃ o' vs', WX w0 w' o' t C vs' (n + 2) ∧ (∀ i, i < 8 → vs' i = vs i) ∧ Fr o (ob l) w w' ∧ ∀ b, o b = 0 → b < w.heap.size → b ∉ ob l → o' b = 0 := by
  obtain ⟨cs, hrow, hcs, hcell⟩ := h.row
  obtain ⟨vl, vw, xs, Bk, hBk, hol, how, hI, hxn⟩ := h.bk.ex
  refine (note_any w t cs (vs 8) (vs 9) l vl vw ls hrow hcs (hcell 8 (by omega)) (hcell 9 (by omega)) (hol.base (Nat.zero_le _)) (how.base (Nat.zero_le _)) (fun b hb hb2 => ?_) (hl.base (Nat.zero_le _)) (by have := hI.1; omega) (by have := hI.2.1; omega) hls).mono ?_
  · have := h.bk.ol b hb; have := h.bk.ow b hb2; omega
  rintro e w' ⟨rfl, ms, k3, lv', wv', l3, d, d3, hN, hml, hk3, cs', hr', hs', hlow, h8', h9'⟩
  obtain ⟨o', hX, hz'⟩ := h.note (fun b hb => ⟨hz b hb, Nat.le_trans hB (hl.lt (mem_ob.1 hb)).1, (hl.lt (mem_ob.1 hb)).2⟩) hI hxn (Nat.zero_le _) (by omega) hN ⟨cs', hr', hs', fun i hi => by rw [hlow i hi]; exact hcell i (by omega), h8', h9'⟩
  refine ⟨rfl, o', _, hX, fun i hi => by rw [upd_ne _ _ (by omega), upd_ne _ _ (by omega)], ⟨_, hN.kp, fun b hb => ?_⟩, hz'⟩
  rcases List.mem_cons.1 hb with rfl | hb
  · exact .inl (by have := h.ot; omega)
  rcases List.mem_append.1 hb with hb | hb
  · exact .inr hb
  rcases List.mem_append.1 hb with hb | hb
  · exact .inl (by have := h.bk.ol b hb; omega)
  · exact .inl (by have := h.bk.ow b hb; omega)
theorem holdsX (h : WX w0 w o t C vs n) (hn : n ≤ 1000) :
    Calls Try.prog 47 #[.pointer (some ⟨t, 8, none⟩)] w fun e w' => e = .returned (.bool true) ∧ ∃ k, w' = w.drewN k := by
  obtain ⟨vl, vw, xs, Bk, hBk, hol, how, hI, hxn⟩ := h.bk.ex
  exact holds_any w t (vs 8) (vs 9) vl vw xs _ (h.cell 8 (by omega)) (h.cell 9 (by omega)) hol.rd how.rd hI (by omega)
end
end Go.Proofs.Ytkceaepbjdfccaa
