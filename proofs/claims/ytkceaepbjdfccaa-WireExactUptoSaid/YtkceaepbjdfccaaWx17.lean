/-
The law's step under way.
-/
import Derived.Test.YtkceaepbjdfccaaWx15
namespace Go.Proofs.Ytkceaepbjdfccaa
open Go.RowKit
/-- the law's step under way: from world w (map o), when both rooms were made, to W -/
structure SX (w0 w : World) (o : Nat → Nat) (t : Nat) (W : World) (o' : Nat → Nat) (C : Nat → Pr) (vs : Nat → Value) (n : Nat) : Prop where
  hx : WX w0 W o' t C vs n
  hf : Fr o [] w W
  hz : ∀ b, o b = 0 → b < w.heap.size → o' b = 0
section
variable {w0 w W W' : World} {o o1 : Nat → Nat} {t n : Nat} {C : Nat → Pr} {vs : Nat → Value}
theorem SX.start (h : WX w0 w o t C vs n) : SX w0 w o t w o C vs n := ⟨h, Fr.refl, fun _ h _ => h⟩
theorem SX.kp0 (h : SX w0 w o t W o1 C vs n) (k : Kp [] W W') : SX w0 w o t W' o1 C vs n := ⟨h.hx.kp0 k, h.hf.next0 k, h.hz⟩
theorem SX.after (h : SX w0 w o t W o1 C vs n) {i : Nat} {D : Pr} (hA : After w0 o1 t C vs n i D W W') : ∃ o', SX w0 w o t W' o' (upd C i D) vs n := by
  obtain ⟨o', h1, h2, h3⟩ := hA
  exact ⟨o', h1, h.hf.next h2 h.hz (by simp), fun b hb hlt => h3 b (h.hz b hb hlt) (Nat.lt_of_lt_of_le hlt h.hf.size)⟩
theorem SX.same (h : SX w0 w o t W o1 C vs n) {C' : Nat → Pr} (hX : WX w0 W' o1 t C' vs n) (hF : Fr o1 [] W W') : SX w0 w o t W' o1 C' vs n :=
  ⟨hX, h.hf.next hF h.hz (by simp), h.hz⟩
theorem SX.noted (h : SX w0 w o t W o1 C vs n) {o' : Nat → Nat} {vs' : Nat → Value} {m : Nat} {l : Value} {xs : List Value} {B : Nat} (hl : Own W B 5 l xs) (hB : w.heap.size ≤ B) (hX : WX w0 W' o' t C vs' m) (hF : Fr o1 (ob l) W W') (hz : ∀ b, o1 b = 0 → b < W.heap.size → b ∉ ob l → o' b = 0) : SX w0 w o t W' o' C vs' m :=
  ⟨hX, h.hf.next hF h.hz (fun b hb => Nat.le_trans hB (hl.lt (mem_ob.1 hb)).1), fun b hb hlt => hz b (h.hz b hb hlt) (Nat.lt_of_lt_of_le hlt h.hf.size) (fun hm => by have := (hl.lt (mem_ob.1 hm)).1; omega)⟩
theorem SX.c (h : SX w0 w o t W o1 C vs n) (i : Nat) (hi : i < 10) : W.cell? ⟨t, i, none⟩ = some (vs i) := h.hx.cell i hi
/-- bytes that a call has just made are nobody's -/
theorem SX.own0 (h : SX w0 w o t W o1 C vs n) {l : Value} {xs : List Value} {B : Nat} {e : TypeId} (hl : Own W' B e l xs) (hB : W.heap.size ≤ B) : ∀ b ∈ ob l, o1 b = 0 := fun _ hb => h.hx.new (Nat.le_trans hB (hl.lt (mem_ob.1 hb)).1)
end
section
variable {w0 w W W' : World} {o o1 : Nat → Nat} {t n : Nat} {C : Nat → Pr} {vs : Nat → Value}
theorem SX.store (h : SX w0 w o t W o1 C vs n) (hw : w0.heap.size ≤ w.heap.size) (i : Nat) (hi : i < 8) {L' : List Nat} (hL' : ∀ b ∈ L', o1 b = 0 ∧ w.heap.size ≤ b ∧ b < W.heap.size) {D : Pr} (fD : Frm D) (u : Value) (hD : D W (fun b => b ∈ L') u) :
    SX w0 w o t (W.setCell ⟨t, i, none⟩ u) (asg o1 L' (20 + i)) (upd C i D) (upd vs i u) n := by
  obtain ⟨h1, h2⟩ := h.hx.store i hi (L' := L') (fun b hb => ⟨(hL' b hb).1, Nat.le_trans hw (hL' b hb).2.1, (hL' b hb).2.2⟩) fD u hD
  refine ⟨h1, h.hf.next (o1 := o1) (E := []) ⟨[t], (Kp.refl [t] W).setCell (.inl (by simp)) u, fun b hb => .inl (by rw [List.mem_singleton] at hb; subst hb; have := h.hx.ot; omega)⟩ h.hz (by simp), fun b hb hlt => ?_⟩
  rw [h2 b (fun hm => by have := (hL' b hm).2.1; omega)]
  exact h.hz b hb hlt
theorem SX.newW (h : SX w0 w o t W o1 C vs n) (hw : w0.heap.size ≤ w.heap.size) (i : Nat) (hi : i < 8) {p B : Nat} {most : Int} (hW : Wr W B p most (.slice none 0 0) ([], 0)) (hp : w.heap.size ≤ p) (ho : o1 p = 0) (hB : B ≤ W.heap.size) :
    SX w0 w o t (W.setCell ⟨t, i, none⟩ (.pointer (some ⟨p, 0, none⟩))) (asg o1 [p] (20 + i)) (upd C i (CW (some ⟨most, ([], 0)⟩))) (upd vs i (.pointer (some ⟨p, 0, none⟩))) n :=
  h.store hw i hi (L' := [p]) (fun b hb => by rw [List.mem_singleton] at hb; subst hb; exact ⟨ho, hp, (Array.getElem?_eq_some_iff.1 hW.hp).1⟩) (frm_CW _) _ ⟨p, B, .slice none 0 0, rfl, by simp, (fun b hb => by cases hb), hB, hW⟩
theorem SX.newV (h : SX w0 w o t W o1 C vs n) (hw : w0.heap.size ≤ w.heap.size) (i : Nat) (hi : i < 8) {p B : Nat} {most : Int} (hW : Vr W B p most (.slice none 0 0) ([], 0)) (hp : w.heap.size ≤ p) (ho : o1 p = 0) (hB : B ≤ W.heap.size) :
    SX w0 w o t (W.setCell ⟨t, i, none⟩ (.pointer (some ⟨p, 0, none⟩))) (asg o1 [p] (20 + i)) (upd C i (CV (some ⟨most, ([], 0)⟩))) (upd vs i (.pointer (some ⟨p, 0, none⟩))) n :=
  h.store hw i hi (L' := [p]) (fun b hb => by rw [List.mem_singleton] at hb; subst hb; exact ⟨ho, hp, (Array.getElem?_eq_some_iff.1 hW.hp).1⟩) (frm_CV _) _ ⟨p, B, .slice none 0 0, rfl, by simp, (fun b hb => by cases hb), hB, hW⟩
theorem SX.newR (h : SX w0 w o t W o1 C vs n) (hw : w0.heap.size ≤ w.heap.size) (i : Nat) (hi : i < 8) {p B : Nat} {rv : Value} {l : List UInt8} (hR : Rr W B p rv l ⟨0, 0, 0⟩) (hB0 : w.heap.size ≤ B) (hz : ∀ b, B ≤ b → o1 b = 0) (hB : B ≤ W.heap.size) (hl : l.length ≤ 1048576) :
    SX w0 w o t (W.setCell ⟨t, i, none⟩ (.pointer (some ⟨p, 0, none⟩))) (asg o1 (p :: ob rv) (20 + i)) (upd C i (CR (some ⟨l, ⟨0, 0, 0⟩⟩))) (upd vs i (.pointer (some ⟨p, 0, none⟩))) n :=
  h.store hw i hi (L' := p :: ob rv) (fun b hb => by
    rcases List.mem_cons.1 hb with rfl | hb
    · exact ⟨hz _ hR.le, Nat.le_trans hB0 hR.le, hR.lt⟩
    · have h1 := hR.own.lt (mem_ob.1 hb)
      exact ⟨hz _ h1.1, Nat.le_trans hB0 h1.1, h1.2⟩) (frm_CR _) _ ⟨p, B, rv, rfl, by simp, fun b hb => by simp [hb], hB, fun h => absurd rfl h, hl, hR⟩
theorem SX.newQ (h : SX w0 w o t W o1 C vs n) (hw : w0.heap.size ≤ w.heap.size) (i : Nat) (hi : i < 8) {p B : Nat} {rv : Value} {l : List UInt8} (hR : Qr W B p rv l ⟨0, 0, 0⟩) (hB0 : w.heap.size ≤ B) (hz : ∀ b, B ≤ b → o1 b = 0) (hB : B ≤ W.heap.size) (hl : l.length ≤ 1048576) :
    SX w0 w o t (W.setCell ⟨t, i, none⟩ (.pointer (some ⟨p, 0, none⟩))) (asg o1 (p :: ob rv) (20 + i)) (upd C i (CQ (some ⟨l, ⟨0, 0, 0⟩⟩))) (upd vs i (.pointer (some ⟨p, 0, none⟩))) n :=
  h.store hw i hi (L' := p :: ob rv) (fun b hb => by
    rcases List.mem_cons.1 hb with rfl | hb
    · exact ⟨hz _ hR.le, Nat.le_trans hB0 hR.le, hR.lt⟩
    · have h1 := hR.own.lt (mem_ob.1 hb)
      exact ⟨hz _ h1.1, Nat.le_trans hB0 h1.1, h1.2⟩) (frm_CQ _) _ ⟨p, B, rv, rfl, by simp, fun b hb => by simp [hb], hB, hl, hR⟩
/-- a slot of the table may be written -/
theorem SX.f (h : SX w0 w o t W o1 C vs n) (i : Nat) : W.frozen? ⟨t, i, none⟩ = false := h.hx.frz i
end
section
variable {w0 w W W1 W2 : World} {o o1 : Nat → Nat} {t n m : Nat} {C : Nat → Pr} {vs vs' : Nat → Value} {M : Md} {b : Nat} {k wh nn : Int} {B Cv : Value} {S : ByteArray} {gx cx gy cy : Nat} {lb lc : List UInt8}
theorem PB.parts (h : PB w0 w o t M vs n b k wh nn B Cv S gx cx gy cy lb lc) {i : Nat} (k0 : Kp [] w W) {T : TypeId} : ∀ L w', Kp L (W.alloc (.cells #[.slice (some ⟨gx, 0, none⟩) lb.length cx, .slice (some ⟨gy, 0, none⟩) lc.length cy] T)) w' → (∀ b ∈ L, o b = 20 + i) → Rdd w' (.slice (some ⟨W.heap.size, 0, none⟩) 2 2) [lb, lc] := fun L w' kL hL => by
  refine parts2 (L := L) (w := W.alloc _) (heap_alloc_new W _) (fun hm => ?_) (fun w'' k2 => ?_) (fun w'' k2 => ?_) w' kL
  · have h1 := hL _ hm
    have h2 := h.hX.new k0.size
    omega
  · refine ((h.rx.sub.kp0 k0).kp0 ((Kp.refl [] W).alloc _)).kp k2 (fun b hb hm => ?_)
    have h3 : some gx = some b := hb
    injection h3 with h3
    subst h3
    have := hL _ hm; have := h.rx.og; omega
  · refine ((h.ry.sub.kp0 k0).kp0 ((Kp.refl [] W).alloc _)).kp k2 (fun b hb hm => ?_)
    have h3 : some gy = some b := hb
    injection h3 with h3
    subst h3
    have := hL _ hm; have := h.ry.og; omega
end
theorem and32 (x : Int) : bits .and .i64 x 4294967295 = x % 4294967296 := by
  show IntKind.i64.wrap ((BitVec.ofInt 64 x &&& BitVec.ofInt 64 4294967295).toNat : Int) = _
  have h1 : (BitVec.ofInt 64 4294967295).toNat = 2 ^ 32 - 1 := by decide
  have h2 : (BitVec.ofInt 64 x).toNat = (x % 18446744073709551616).toNat := by rw [BitVec.toNat_ofInt]; rfl
  rw [BitVec.toNat_and, h1, h2, Nat.and_two_pow_sub_one_eq_mod, IntWalk.i64_in _ (by omega)]
  omega
theorem and1 (x : Int) : bits .and .i64 x 1 = x % 2 := by
  show IntKind.i64.wrap ((BitVec.ofInt 64 x &&& BitVec.ofInt 64 1).toNat : Int) = _
  have h1 : (BitVec.ofInt 64 1).toNat = 2 ^ 1 - 1 := by decide
  have h2 : (BitVec.ofInt 64 x).toNat = (x % 18446744073709551616).toNat := by rw [BitVec.toNat_ofInt]; rfl
  rw [BitVec.toNat_and, h1, h2, Nat.and_two_pow_sub_one_eq_mod, IntWalk.i64_in _ (by omega)]
  omega
theorem wrap_u32 (x : Int) (h0 : 0 ≤ x) (h1 : x < 4294967296) : IntKind.u32.wrap x = x := by
  simp [IntKind.wrap, IntKind.signed, IntKind.bits]; omega
/-- the error of a run -/
def runE (l : List UInt8) : Int := if 65535 < l.length then 12 else 0
theorem CM_w0 (M : Md) (x : Option Ws) : upd (upd (CM M) 0 (CW x)) 2 (CV x) = CM { M with w0 := x } := by
  funext i
  unfold upd
  match i with
  | 0 => rfl
  | 1 => rfl
  | 2 => rfl
  | 3 => rfl
  | 4 => rfl
  | 5 => rfl
  | 6 => rfl
  | _ + 7 => rfl
theorem CM_w1 (M : Md) (x : Option Ws) : upd (upd (CM M) 1 (CW x)) 3 (CV x) = CM { M with w1 := x } := by
  funext i
  unfold upd
  match i with
  | 0 => rfl
  | 1 => rfl
  | 2 => rfl
  | 3 => rfl
  | 4 => rfl
  | 5 => rfl
  | 6 => rfl
  | _ + 7 => rfl
theorem CM_r0 (M : Md) (x : Option Qs) : upd (upd (CM M) 4 (CR x)) 6 (CQ x) = CM { M with r0 := x } := by
  funext i
  unfold upd
  match i with
  | 0 => rfl
  | 1 => rfl
  | 2 => rfl
  | 3 => rfl
  | 4 => rfl
  | 5 => rfl
  | 6 => rfl
  | _ + 7 => rfl
theorem CM_r1 (M : Md) (x : Option Qs) : upd (upd (CM M) 5 (CR x)) 7 (CQ x) = fun i => if i < 8 then CM { M with r1 := x } i else upd (upd (CM M) 5 (CR x)) 7 (CQ x) i := by
  funext i
  unfold upd
  match i with
  | 0 => rfl
  | 1 => rfl
  | 2 => rfl
  | 3 => rfl
  | 4 => rfl
  | 5 => rfl
  | 6 => rfl
  | 7 => rfl
  | k + 8 => rw [if_neg (by omega)]; rfl
theorem WX.imp {w0 w : World} {o : Nat → Nat} {t n : Nat} {C C' : Nat → Pr} {vs : Nat → Value} (h : WX w0 w o t C vs n) (hC : ∀ i, i < 8 → C i = C' i) : WX w0 w o t C' vs n :=
  ⟨h.kp, h.old, h.ot, h.row, fun i hi => by rw [← hC i hi]; exact h.c i hi, fun i hi => by rw [← hC i hi]; exact h.fc i hi, h.bk⟩
theorem SX.r1 {w0 w W : World} {o o1 : Nat → Nat} {t n : Nat} {vs : Nat → Value} {M : Md} {x : Option Qs} (h : SX w0 w o t W o1 (upd (upd (CM M) 5 (CR x)) 7 (CQ x)) vs n) : SX w0 w o t W o1 (CM { M with r1 := x }) vs n :=
  ⟨h.hx.imp (fun i hi => (congrFun (CM_r1 M x) i).trans (if_pos hi)), h.hf, h.hz⟩
end Go.Proofs.Ytkceaepbjdfccaa
