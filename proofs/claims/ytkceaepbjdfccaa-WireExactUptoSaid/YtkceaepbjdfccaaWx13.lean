/-
What the calls of WireExact come to, said of the table and its things.
-/
import Derived.Test.YtkceaepbjdfccaaWx12
namespace Go.Proofs.Ytkceaepbjdfccaa
open Go.RowKit
section
variable {w0 w w' : World} {o : Nat → Nat} {t : Nat} {C : Nat → Pr} {vs : Nat → Value} {n : Nat}
/-- only blocks that somebody has (or of E) were written -/
def Fr (o : Nat → Nat) (E : List Nat) (w w' : World) : Prop := ∃ L, Kp L w w' ∧ ∀ b ∈ L, o b ≠ 0 ∨ b ∈ E
theorem Fr.size {E : List Nat} (h : Fr o E w w') : w.heap.size ≤ w'.heap.size := by obtain ⟨L, k, _⟩ := h; exact k.size
theorem Fr.kp0 {E : List Nat} (k : Kp [] w w') : Fr o E w w' := ⟨[], k, by simp⟩
theorem Fr.rd {E : List Nat} (h : Fr o E w w') {v : Value} {xs : List Value} (hr : Rd w v xs) (hz : ∀ b ∈ ob v, o b = 0 ∧ b ∉ E) : Rd w' v xs := by
  obtain ⟨L, k, hL⟩ := h
  exact hr.kp k (fun b hb hm => by have := hz b (mem_ob.2 hb); exact (hL b hm).elim (fun h1 => h1 this.1) (fun h1 => this.2 h1))
theorem Fr.own {E : List Nat} (h : Fr o E w w') {B : Nat} {e : TypeId} {v : Value} {xs : List Value} (hr : Own w B e v xs) (hz : ∀ b ∈ ob v, o b = 0 ∧ b ∉ E) : Own w' B e v xs := by
  obtain ⟨L, k, hL⟩ := h
  exact hr.kp k (fun b hb hm => by have := hz b (mem_ob.2 hb); exact (hL b hm).elim (fun h1 => h1 this.1) (fun h1 => this.2 h1))
theorem Fr.row {E : List Nat} (h : Fr o E w w') {b : Nat} {x : Obj} (hr : w.heap[b]? = some x) (hz : o b = 0 ∧ b ∉ E) : w'.heap[b]? = some x := by
  obtain ⟨L, k, hL⟩ := h
  exact k.heap hr (fun hm => (hL b hm).elim (fun h1 => h1 hz.1) (fun h1 => hz.2 h1))
/-- behind a call that wrote what is thing i's alone -/
def After (w0 : World) (o : Nat → Nat) (t : Nat) (C : Nat → Pr) (vs : Nat → Value) (n i : Nat) (D : Pr) (w : World) (w' : World) : Prop :=
  ∃ o', WX w0 w' o' t (upd C i D) vs n ∧ Fr o [] w w' ∧ ∀ b, o b = 0 → b < w.heap.size → o' b = 0
theorem WX.put (h : WX w0 w o t C vs n) (i : Nat) (hi : i < 8) {p B : Nat} {most : Int} {ov : Value} {s' : List UInt8 × Int} {r : Ending} (hv : vs i = .pointer (some ⟨p, 0, none⟩)) (hp : o p = 20 + i) (ho : ∀ b ∈ ob ov, o b = 20 + i) (hB : B ≤ w.heap.size) (hP : Put B p most ov s' w r w') :
    r = .returned (.tuple #[]) ∧ After w0 o t C vs n i (CW (some ⟨most, s'⟩)) w w' := by
  obtain ⟨ov', rfl, hW, hk, hov⟩ := hP
  obtain ⟨h1, h2⟩ := h.call (L := p :: ob ov) (L' := p :: ob ov') i hi hk (fun b hb => by
    rcases List.mem_cons.1 hb with rfl | hb
    · exact hp
    · exact ho b hb) (fun b hb => by
    rcases List.mem_cons.1 hb with rfl | hb
    · exact .inl hp
    · rcases hov b hb with h1 | h1
      · exact .inl (ho b h1)
      · exact .inr ⟨h1, (hW.own.lt (mem_ob.1 hb)).2⟩) (D := CW (some ⟨most, s'⟩)) (frm_CW _) ⟨p, B, ov', hv, by simp, fun b hb => by simp [hb], Nat.le_trans hB hk.size, hW⟩
  exact ⟨rfl, _, h1, ⟨_, hk, fun b hb => .inl (by
    rcases List.mem_cons.1 hb with rfl | hb
    · omega
    · have := ho b hb; omega)⟩, h2⟩
theorem WX.putV (h : WX w0 w o t C vs n) (i : Nat) (hi : i < 8) {p B : Nat} {most : Int} {ov : Value} {s' : List UInt8 × Int} {r : Ending} (hv : vs i = .pointer (some ⟨p, 0, none⟩)) (hp : o p = 20 + i) (ho : ∀ b ∈ ob ov, o b = 20 + i) (hB : B ≤ w.heap.size) (hP : PutV B p most ov s' w r w') :
    r = .returned (.tuple #[]) ∧ After w0 o t C vs n i (CV (some ⟨most, s'⟩)) w w' := by
  obtain ⟨ov', rfl, hW, hk, hov⟩ := hP
  obtain ⟨h1, h2⟩ := h.call (L := p :: ob ov) (L' := p :: ob ov') i hi hk (fun b hb => by
    rcases List.mem_cons.1 hb with rfl | hb
    · exact hp
    · exact ho b hb) (fun b hb => by
    rcases List.mem_cons.1 hb with rfl | hb
    · exact .inl hp
    · rcases hov b hb with h1 | h1
      · exact .inl (ho b h1)
      · exact .inr ⟨h1, (hW.own.lt (mem_ob.1 hb)).2⟩) (D := CV (some ⟨most, s'⟩)) (frm_CV _) ⟨p, B, ov', hv, by simp, fun b hb => by simp [hb], Nat.le_trans hB hk.size, hW⟩
  exact ⟨rfl, _, h1, ⟨_, hk, fun b hb => .inl (by
    rcases List.mem_cons.1 hb with rfl | hb
    · omega
    · have := ho b hb; omega)⟩, h2⟩
/-- nothing said -/
def anyPr : Pr := fun _ _ _ => True
theorem frm_any : Frm anyPr := ⟨fun _ _ _ _ => trivial⟩
/-- a reader has been asked: new memory is nobody's -/
theorem WX.got (h : WX w0 w o t C vs n) (i : Nat) (hi : i < 8) {p B : Nat} {rv : Value} {b : List UInt8} {s' : Rst} (hv : vs i = .pointer (some ⟨p, 0, none⟩)) (hp : o p = 20 + i) (ho : ∀ b ∈ ob rv, o b = 20 + i) (hB : B ≤ w.heap.size) (hw : s'.f ≠ 0 → s'.wh = s'.at_) (hb : b.length ≤ 1048576) (hR : Rr w' B p rv b s') (hk : Kp [p] w w') :
    WX w0 w' o t (upd C i (CR (some ⟨b, s'⟩))) vs n := by
  obtain ⟨h1, h2⟩ := h.call (L := [p]) (L' := []) i hi hk (fun b hb => by rw [List.mem_singleton] at hb; subst hb; exact hp) (fun b hb => by cases hb) (D := anyPr) frm_any trivial
  have e : asg o [] (20 + i) = o := by funext b; exact asg_out (by simp)
  rw [e] at h1
  refine ⟨h1.kp, h1.old, h1.ot, h1.row, fun j hj => ?_, fun j hj => ?_, h1.bk⟩
  · by_cases hji : j = i
    · subst hji; rw [upd_same]; exact ⟨p, B, rv, hv, hp, ho, Nat.le_trans hB hk.size, hw, hb, hR⟩
    · have := h1.c j hj
      rw [upd_ne _ _ hji] at this ⊢
      exact this
  · by_cases hji : j = i
    · subst hji; rw [upd_same]; exact frm_CR _
    · rw [upd_ne _ _ hji]; exact h.fc j hj
theorem WX.gotQ (h : WX w0 w o t C vs n) (i : Nat) (hi : i < 8) {p B : Nat} {rv : Value} {b : List UInt8} {s' : Rst} (hv : vs i = .pointer (some ⟨p, 0, none⟩)) (hp : o p = 20 + i) (ho : ∀ b ∈ ob rv, o b = 20 + i) (hB : B ≤ w.heap.size) (hb : b.length ≤ 1048576) (hR : Qr w' B p rv b s') (hk : Kp [p] w w') :
    WX w0 w' o t (upd C i (CQ (some ⟨b, s'⟩))) vs n := by
  obtain ⟨h1, h2⟩ := h.call (L := [p]) (L' := []) i hi hk (fun b hb => by rw [List.mem_singleton] at hb; subst hb; exact hp) (fun b hb => by cases hb) (D := anyPr) frm_any trivial
  have e : asg o [] (20 + i) = o := by funext b; exact asg_out (by simp)
  rw [e] at h1
  refine ⟨h1.kp, h1.old, h1.ot, h1.row, fun j hj => ?_, fun j hj => ?_, h1.bk⟩
  · by_cases hji : j = i
    · subst hji; rw [upd_same]; exact ⟨p, B, rv, hv, hp, ho, Nat.le_trans hB hk.size, hb, hR⟩
    · have := h1.c j hj
      rw [upd_ne _ _ hji] at this ⊢
      exact this
  · by_cases hji : j = i
    · subst hji; rw [upd_same]; exact frm_CQ _
    · rw [upd_ne _ _ hji]; exact h.fc j hj
/-- a thing opened -/
theorem WX.oW (h : WX w0 w o t C vs n) (i : Nat) (hi : i < 8) {m : Ws} (hC : C i = CW (some m)) : ∃ (p B : Nat) (ov : Value), vs i = .pointer (some ⟨p, 0, none⟩) ∧ o p = 20 + i ∧ (∀ b ∈ ob ov, o b = 20 + i) ∧ B ≤ w.heap.size ∧ Wr w B p m.most ov m.s := by
  have := h.c i hi; rw [hC] at this; exact this
theorem WX.oV (h : WX w0 w o t C vs n) (i : Nat) (hi : i < 8) {m : Ws} (hC : C i = CV (some m)) : ∃ (p B : Nat) (ov : Value), vs i = .pointer (some ⟨p, 0, none⟩) ∧ o p = 20 + i ∧ (∀ b ∈ ob ov, o b = 20 + i) ∧ B ≤ w.heap.size ∧ Vr w B p m.most ov m.s := by
  have := h.c i hi; rw [hC] at this; exact this
theorem WX.oR (h : WX w0 w o t C vs n) (i : Nat) (hi : i < 8) {m : Qs} (hC : C i = CR (some m)) : ∃ (p B : Nat) (rv : Value), vs i = .pointer (some ⟨p, 0, none⟩) ∧ o p = 20 + i ∧ (∀ b ∈ ob rv, o b = 20 + i) ∧ B ≤ w.heap.size ∧ (m.s.f ≠ 0 → m.s.wh = m.s.at_) ∧ m.b.length ≤ 1048576 ∧ Rr w B p rv m.b m.s := by
  have := h.c i hi; rw [hC] at this; exact this
theorem WX.oQ (h : WX w0 w o t C vs n) (i : Nat) (hi : i < 8) {m : Qs} (hC : C i = CQ (some m)) : ∃ (p B : Nat) (rv : Value), vs i = .pointer (some ⟨p, 0, none⟩) ∧ o p = 20 + i ∧ (∀ b ∈ ob rv, o b = 20 + i) ∧ B ≤ w.heap.size ∧ m.b.length ≤ 1048576 ∧ Qr w B p rv m.b m.s := by
  have := h.c i hi; rw [hC] at this; exact this
/-- what is neither thing's nor new stays as it reads through a thing's call -/
theorem WX.lit (_ : WX w0 w o t C vs n) {L : List Nat} {i : Nat} {v : Value} {xs : List Value} (hL : ∀ b ∈ L, o b = 20 + i) (hr : Rd w v xs) (hz : ∀ b ∈ ob v, o b = 0) (k : Kp L w w') : Rd w' v xs :=
  hr.kp k (fun b hb hm => by have := hz b (mem_ob.2 hb); have := hL b hm; omega)

/-! writers -/
theorem wxU8 (h : WX w0 w o t C vs n) (i : Nat) (hi : i < 8) {m : Ws} (hC : C i = CW (some m)) (N : Int) :
    Calls Try.prog 31 #[vs i, .int .i64 N] w fun r w' => r = .returned (.tuple #[]) ∧ After w0 o t C vs n i (CW (some ⟨m.most, putL m.most m.s (withinE N 256) [lo8 N]⟩)) w w' := by
  obtain ⟨p, B, ov, hv, hp, ho, hB, hW⟩ := h.oW i hi hC
  rw [hv]
  exact (wU8_any B p m.most ov m.s N w hW hB).mono fun r w' hP => h.put i hi hv hp ho hB hP
theorem wxU16 (h : WX w0 w o t C vs n) (i : Nat) (hi : i < 8) {m : Ws} (hC : C i = CW (some m)) (N : Int) :
    Calls Try.prog 32 #[vs i, .int .i64 N] w fun r w' => r = .returned (.tuple #[]) ∧ After w0 o t C vs n i (CW (some ⟨m.most, putL m.most m.s (withinE N 65536) (be16 N)⟩)) w w' := by
  obtain ⟨p, B, ov, hv, hp, ho, hB, hW⟩ := h.oW i hi hC
  rw [hv]
  exact (wU16_any B p m.most ov m.s N w hW hB).mono fun r w' hP => h.put i hi hv hp ho hB hP
theorem wxU32 (h : WX w0 w o t C vs n) (i : Nat) (hi : i < 8) {m : Ws} (hC : C i = CW (some m)) (N : Int) (h0 : 0 ≤ N) (h1 : N < 4294967296) :
    Calls Try.prog 34 #[vs i, .int .u32 N] w fun r w' => r = .returned (.tuple #[]) ∧ After w0 o t C vs n i (CW (some ⟨m.most, putL m.most m.s 0 (be32 N)⟩)) w w' := by
  obtain ⟨p, B, ov, hv, hp, ho, hB, hW⟩ := h.oW i hi hC
  rw [hv]
  exact (wU32_any B p m.most ov m.s N h0 h1 w hW hB).mono fun r w' hP => h.put i hi hv hp ho hB hP
theorem wxRun (h : WX w0 w o t C vs n) (i : Nat) (hi : i < 8) {m : Ws} (hC : C i = CW (some m)) (v : Value) (l : List UInt8) (hr : Rd w v (bv l)) (hz : ∀ b ∈ ob v, o b = 0) (hl : l.length ≤ 140737488351232) :
    Calls Try.prog 33 #[vs i, v] w fun r w' => r = .returned (.tuple #[]) ∧ After w0 o t C vs n i (CW (some ⟨m.most, putL m.most m.s (if 65535 < l.length then 12 else 0) (be16 l.length ++ l)⟩)) w w' := by
  obtain ⟨p, B, ov, hv, hp, ho, hB, hW⟩ := h.oW i hi hC
  rw [hv]
  refine (wRun_any B p m.most ov m.s v l w hW hB (fun w' k => ?_) hl).mono fun r w' hP => h.put i hi hv hp ho hB hP
  exact h.lit (i := i) (fun b hb => by
    rcases List.mem_cons.1 hb with rfl | hb
    · exact hp
    · exact ho b hb) hr hz k
theorem wxFixed (h : WX w0 w o t C vs n) (i : Nat) (hi : i < 8) {m : Ws} (hC : C i = CW (some m)) (v : Value) (ls : List (List UInt8)) (hr : ∀ L w', Kp L w w' → (∀ b ∈ L, o b = 20 + i) → Rdd w' v ls) (hl : flen ls ≤ 140737488355328) (hll : ls.length ≤ 140737488355328) :
    Calls Try.prog 51 #[vs i, v] w fun r w' => r = .returned (.tuple #[]) ∧ After w0 o t C vs n i (CW (some ⟨m.most, putL m.most m.s 0 ls.flatten⟩)) w w' := by
  obtain ⟨p, B, ov, hv, hp, ho, hB, hW⟩ := h.oW i hi hC
  rw [hv]
  refine (wFixed_any B p m.most ov m.s v ls w hW hB (fun w' k => ?_) hl hll).mono fun r w' hP => h.put i hi hv hp ho hB hP
  exact hr _ w' k (fun b hb => by
    rcases List.mem_cons.1 hb with rfl | hb
    · exact hp
    · exact ho b hb)
theorem vxNum1 (h : WX w0 w o t C vs n) (i : Nat) (hi : i < 8) {m : Ws} (hC : C i = CV (some m)) (N : Int) :
    Calls Try.prog 60 #[vs i, .int .i64 N, .int .i64 1] w fun r w' => r = .returned (.tuple #[]) ∧ After w0 o t C vs n i (CV (some ⟨m.most, putL m.most m.s (withinE N 256) [lo8 N]⟩)) w w' := by
  obtain ⟨p, B, ov, hv, hp, ho, hB, hW⟩ := h.oV i hi hC
  rw [hv]
  exact (vnum1 B p m.most ov m.s N w hW hB).mono fun r w' hP => h.putV i hi hv hp ho hB hP
theorem vxNum2 (h : WX w0 w o t C vs n) (i : Nat) (hi : i < 8) {m : Ws} (hC : C i = CV (some m)) (N : Int) :
    Calls Try.prog 60 #[vs i, .int .i64 N, .int .i64 2] w fun r w' => r = .returned (.tuple #[]) ∧ After w0 o t C vs n i (CV (some ⟨m.most, putL m.most m.s (withinE N 65536) (be16 N)⟩)) w w' := by
  obtain ⟨p, B, ov, hv, hp, ho, hB, hW⟩ := h.oV i hi hC
  rw [hv]
  exact (vnum2 B p m.most ov m.s N w hW hB).mono fun r w' hP => h.putV i hi hv hp ho hB hP
theorem vxNum4 (h : WX w0 w o t C vs n) (i : Nat) (hi : i < 8) {m : Ws} (hC : C i = CV (some m)) (N : Int) (h0 : 0 ≤ N) (h1 : N < 4294967296) :
    Calls Try.prog 60 #[vs i, .int .i64 N, .int .i64 4] w fun r w' => r = .returned (.tuple #[]) ∧ After w0 o t C vs n i (CV (some ⟨m.most, putL m.most m.s 0 (be32 N)⟩)) w w' := by
  obtain ⟨p, B, ov, hv, hp, ho, hB, hW⟩ := h.oV i hi hC
  rw [hv]
  refine (vnum4 B p m.most ov m.s N w hW hB).mono fun r w' hP => ?_
  rw [numB_four, show withinE N 4294967296 = 0 by unfold withinE; rw [if_neg (by omega)]] at hP
  exact h.putV i hi hv hp ho hB hP
theorem vxRun (h : WX w0 w o t C vs n) (i : Nat) (hi : i < 8) {m : Ws} (hC : C i = CV (some m)) (v : Value) (l : List UInt8) (hr : Rd w v (bv l)) (hl : l.length ≤ 140737487306752) :
    Calls Try.prog 62 #[vs i, v] w fun r w' => r = .returned (.tuple #[]) ∧ After w0 o t C vs n i (CV (some ⟨m.most, putL m.most m.s (if 65535 < l.length then 12 else 0) (be16 l.length ++ l)⟩)) w w' := by
  obtain ⟨p, B, ov, hv, hp, ho, hB, hW⟩ := h.oV i hi hC
  rw [hv]
  exact (vrun_any B p m.most ov m.s v l w hW hB hr hl).mono fun r w' hP => h.putV i hi hv hp ho hB hP
theorem vxFixed (h : WX w0 w o t C vs n) (i : Nat) (hi : i < 8) {m : Ws} (hC : C i = CV (some m)) (v : Value) (ls : List (List UInt8)) (hr : Rdd w v ls) (hl : flen ls ≤ 70368744177664) (hll : ls.length ≤ 140737488355328) :
    Calls Try.prog 61 #[vs i, v] w fun r w' => r = .returned (.tuple #[]) ∧ After w0 o t C vs n i (CV (some ⟨m.most, putL m.most m.s 0 ls.flatten⟩)) w w' := by
  obtain ⟨p, B, ov, hv, hp, ho, hB, hW⟩ := h.oV i hi hC
  rw [hv]
  exact (vfixed_any B p m.most ov m.s v ls w hW hB hr hl hll).mono fun r w' hP => h.putV i hi hv hp ho hB hP
/-- what Out gives -/
def outL (s : List UInt8 × Int) : List UInt8 := if s.2 = 0 then s.1 else []
theorem wxOut (h : WX w0 w o t C vs n) (i : Nat) (hi : i < 8) {m : Ws} (hC : C i = CW (some m)) :
    Calls Try.prog 35 #[vs i] w fun r w' => ∃ l, r = .returned (.tuple #[l, .int .i64 m.s.2]) ∧ Own w' w.heap.size 5 l (bv (outL m.s)) ∧ (outL m.s).length ≤ 1048576 ∧ Kp [] w w' := by
  obtain ⟨p, B, ov, hv, hp, ho, hB, hW⟩ := h.oW i hi hC
  rw [hv]
  obtain ⟨most, l, f⟩ := m
  by_cases hf : f = 0
  · subst hf
    refine (out_ok B p most ov l w hW).mono ?_
    rintro r w' ⟨g, rfl, h1, _, _, k⟩
    refine ⟨_, rfl, by simpa [outL] using h1, ?_, k⟩
    have := hW.hl; have := hW.hm
    simp only [outL, if_pos] at *; omega
  · refine (out_bad B p most ov l f hf w hW).mono ?_
    rintro r w' ⟨rfl, k⟩
    refine ⟨_, rfl, ?_, ?_, k⟩
    · simp only [outL, if_neg hf]; exact Own.nil _ _ _
    · simp only [outL, if_neg hf]; simp
theorem vxOut (h : WX w0 w o t C vs n) (i : Nat) (hi : i < 8) {m : Ws} (hC : C i = CV (some m)) :
    Calls Try.prog 63 #[vs i] w fun r w' => ∃ l, r = .returned (.tuple #[l, .int .i64 m.s.2]) ∧ Rd w' l (bv (outL m.s)) ∧ Kp [] w w' := by
  obtain ⟨p, B, ov, hv, hp, ho, hB, hW⟩ := h.oV i hi hC
  rw [hv]
  obtain ⟨most, l, f⟩ := m
  by_cases hf : f = 0
  · subst hf
    refine (vout_ok B p most ov l w hW).mono ?_
    rintro r w' ⟨g, rfl, h1, k⟩
    exact ⟨_, rfl, by simpa [outL] using h1.rd, k⟩
  · refine (vout_bad B p most ov l f hf w hW).mono ?_
    rintro r w' ⟨rfl, k⟩
    refine ⟨_, rfl, ?_, k⟩
    simp only [outL, if_neg hf]; exact Rd.nil _
end
end Go.Proofs.Ytkceaepbjdfccaa
