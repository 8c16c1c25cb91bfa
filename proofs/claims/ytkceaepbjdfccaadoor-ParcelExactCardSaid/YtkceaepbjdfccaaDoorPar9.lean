/-
A tray in memory; parcel.New, Len, found, Missing.
-/
import Derived.Test.YtkceaepbjdfccaaDoorPar8
namespace Go.Proofs.YtkceaepbjdfccaaDoor
open Go.RowKit
/-- a parcel in a tray -/
structure Ent where
  peer : List UInt8
  id : Int
  sum : List UInt8
  parts : List (Option (List UInt8))
def Ent.ky (e : Ent) : Ky := (e.peer, e.id)
/-- .. and where it lies -/
structure Zt where
  e : Ent
  pb : Nat
  ab : Nat
def Zk (Z : List Zt) : List (Ky × Nat) := Z.map fun z => (z.e.ky, z.pb)
def Zl (Z : List Zt) : List Ent := Z.map fun z => z.e
/-- a tray at block t, its map in block B; what is never written of it in blocks of G -/
structure TRz (w : World) (G : Nat → Prop) (t : Nat) (most : Int) (B : Nat) (Z : List Zt) : Prop where
  gB : ¬ G B
  ga : ∀ z ∈ Z, ¬ G z.ab
  gt : G t
  ht : w.heap[t]? = some (.cells #[.int .i64 most, .map (some B)] 99 (0, 0))
  m : MapIs w B (Zk Z)
  p : ∀ z ∈ Z, PcAt w G z.pb z.ab z.e.sum z.e.parts
  nd : (Z.map fun z => z.ab).Nodup
  hm : 1 ≤ most ∧ most ≤ 64
  len : (Z.length : Int) ≤ most
/-- a tray of these parcels, all of it in blocks of F -/
structure TR (w : World) (F : Nat → Prop) (t : Nat) (most : Int) (T : List Ent) : Prop where
  lt : ∀ b, F b → b < w.heap.size
  ex : ∃ G B Z, TRz w G t most B Z ∧ Zl Z = T ∧ F B ∧ (∀ b, G b → F b) ∧ ∀ z ∈ Z, F z.ab
theorem TRz.aB {w : World} {G : Nat → Prop} {t : Nat} {most : Int} {B : Nat} {Z : List Zt} (h : TRz w G t most B Z) {z : Zt} (hz : z ∈ Z) : z.ab ≠ B := by
  intro e
  obtain ⟨vals, h1, _⟩ := (h.p z hz).ha
  obtain ⟨es, c, hb, _⟩ := h.m.ex
  rw [e, hb] at h1
  cases h1
theorem TRz.kp {w w' : World} {L : List Nat} {G : Nat → Prop} {t : Nat} {most : Int} {B : Nat} {Z : List Zt} (h : TRz w G t most B Z) (k : Kp L w w') (hL : ∀ b ∈ L, ¬ G b ∧ b ≠ B ∧ ∀ z ∈ Z, b ≠ z.ab) : TRz w' G t most B Z :=
  ⟨h.gB, h.ga, h.gt, k.heap h.ht (fun hm => (hL _ hm).1 h.gt), h.m.kp k (fun hm => (hL _ hm).2.1 rfl), fun z hz => (h.p z hz).kp k (fun b hb => (hL b hb).1) (fun hm => (hL _ hm).2.2 z hz rfl) (fun _ hb => hb), h.nd, h.hm, h.len⟩
theorem TRz.kp0 {w w' : World} {G : Nat → Prop} {t : Nat} {most : Int} {B : Nat} {Z : List Zt} (h : TRz w G t most B Z) (k : Kp [] w w') : TRz w' G t most B Z := h.kp k (by simp)
theorem TR.kp {w w' : World} {L : List Nat} {F : Nat → Prop} {t : Nat} {most : Int} {T : List Ent} (h : TR w F t most T) (k : Kp L w w') (hL : ∀ b ∈ L, ¬ F b) : TR w' F t most T := by
  obtain ⟨G, B, Z, h1, h2, h3, h4, h5⟩ := h.ex
  exact ⟨fun b hb => Nat.lt_of_lt_of_le (h.lt b hb) k.size, G, B, Z, h1.kp k (fun b hb => ⟨fun e => hL b hb (h4 b e), fun e => hL b hb (e ▸ h3), fun z hz e => hL b hb (e ▸ h5 z hz)⟩), h2, h3, h4, h5⟩
theorem TR.kp0 {w w' : World} {F : Nat → Prop} {t : Nat} {most : Int} {T : List Ent} (h : TR w F t most T) (k : Kp [] w w') : TR w' F t most T := h.kp k (by simp)
theorem TR.most {w : World} {F : Nat → Prop} {t : Nat} {most : Int} {T : List Ent} (h : TR w F t most T) : 1 ≤ most ∧ most ≤ 64 := by
  obtain ⟨G, B, Z, h1, _⟩ := h.ex
  exact h1.hm
def findZ (Z : List Zt) (k : Ky) : Option Zt := Z.find? fun z => z.e.ky == k
def findE (T : List Ent) (k : Ky) : Option Ent := T.find? fun e => e.ky == k
theorem lookK_Zk (Z : List Zt) (k : Ky) : lookK (Zk Z) k = (findZ Z k).map (·.pb) := by
  unfold lookK Zk findZ
  rw [List.find?_map]
  rw [Option.map_map]
  rfl
theorem findE_Zl (Z : List Zt) (k : Ky) : findE (Zl Z) k = (findZ Z k).map (·.e) := by
  unfold findE Zl findZ
  rw [List.find?_map]
  rfl
/-- what found answers -/
def foundV (Z : List Zt) (k : Ky) : Value × Int :=
  if peerErr k.1.length ≠ 0 then (.pointer none, 212) else match findZ Z k with
    | none => (.pointer none, 201)
    | some z => (pv z.pb, 0)
theorem peerErr_or (n : Nat) : peerErr n = 0 ∨ peerErr n = 212 := by unfold peerErr; split <;> simp
theorem peerErr_len {n : Nat} (h : peerErr n = 0) : 1 ≤ n ∧ n ≤ 16 := by
  unfold peerErr at h
  split at h
  · cases h
  · omega
set_option maxRecDepth 100000 in
theorem newTray_any (most : Int) (w : World) :
    Calls Tryd.prog 25 #[.int .i64 most] w fun e w' =>
      (¬ (1 ≤ most ∧ most ≤ 64) ∧ e = .returned (.tuple #[.pointer none, .int .i64 2]) ∧ w = w') ∨
      (1 ≤ most ∧ most ≤ 64 ∧ ∃ t F, e = .returned (.tuple #[.pointer (some ⟨t, 0, none⟩), .int .i64 0]) ∧ TR w' F t most [] ∧ (∀ b, F b → w.heap.size ≤ b) ∧ Kp [] w w') := by
  have hmm := @run_makeMap Tryd.prog
  by_cases h1 : most < 1
  · go_enter Tryd.func25, Tryd.ntmps25
    go_wp2_with fail
    go_ret2
    exact .inl ⟨by omega, rfl, rfl⟩
  · have h1' : 1 ≤ most := by omega
    by_cases h2 : 64 < most
    · clear h1
      go_enter Tryd.func25, Tryd.ntmps25
      go_wp2_with fail
      go_ret2
      exact .inl ⟨by omega, rfl, rfl⟩
    · have h2' : most ≤ 64 := by omega
      clear h1 h2
      go_enter Tryd.func25, Tryd.ntmps25
      go_wp2_with fail
      go_ret2
      refine .inr ⟨h1', h2', w.heap.size + 1, fun b => b = w.heap.size ∨ b = w.heap.size + 1, rfl, ⟨?_, fun b => b = w.heap.size + 1, w.heap.size, [], ⟨by omega, by simp, rfl, ?_, ?_, by simp, by simp, ⟨h1', h2'⟩, by simp; omega⟩, rfl, .inl rfl, fun b hb => .inr hb, by simp⟩, ?_, ?_⟩
      · rintro b (rfl | rfl) <;> (simp; try omega)
      · exact hp_new (by simp)
      · exact (MapIs.made w).kp ((Kp.refl [] _).alloc _) (by simp)
      · rintro b (rfl | rfl) <;> omega
      · exact ((Kp.refl [] w).alloc _).alloc _
set_option maxRecDepth 100000 in
theorem trayLen_any (F : Nat → Prop) (t : Nat) (most : Int) (T : List Ent) (w : World) (h : TR w F t most T) :
    Calls Tryd.prog 29 #[.pointer (some ⟨t, 0, none⟩)] w fun e w' => e = .returned (.int .i64 T.length) ∧ w = w' := by
  obtain ⟨G, B, Z, h1, rfl, _⟩ := h.ex
  replace h := h1
  clear h1
  have hc1 : w.cell? ⟨t, 1, none⟩ = some (.map (some B)) := by rw [cell_of_row w t 1 _ _ _ h.ht]; rfl
  have hlen := h.m.len
  have hz : (Zl Z).length = (Zk Z).length := by simp [Zl, Zk]
  have HZ := Lib.hid hz
  clear h hz
  go_enter Tryd.func29, Tryd.ntmps29
  go_wp2_with fail
  go_ret
  exact ⟨by rw [HZ.out]; rfl, rfl⟩
set_option maxRecDepth 100000 in
theorem found_any (G : Nat → Prop) (t : Nat) (most : Int) (B : Nat) (Z : List Zt) (p : List UInt8) (id : Int) (w : World) (h : TRz w G t most B Z) (hp : p.length ≤ 140737488351232) (h0 : 0 ≤ id) (h1 : id < 4294967296) :
    Calls Tryd.prog 53 #[.pointer (some ⟨t, 0, none⟩), .string (strOf p), .int .u32 id] w fun e w' => e = .returned (.tuple #[(foundV Z (p, id)).1, .int .i64 (foundV Z (p, id)).2]) ∧ w = w' := by
  have HN := Lib.hid (pnamed_any (strOf p) w (by rw [strOf_size]; exact hp))
  rw [strOf_size] at HN
  rcases peerErr_or p.length with he | he
  · have hlk := h.m.lookup (k := (p, id)) ⟨by show p.length ≤ _; omega, h0, h1⟩
    have hc1 : w.cell? ⟨t, 1, none⟩ = some (.map (some B)) := by rw [cell_of_row w t 1 _ _ _ h.ht]; rfl
    rw [lookK_Zk] at hlk
    rw [he] at HN
    have HF : Hid (foundV Z (p, id) = match findZ Z (p, id) with | none => (Value.pointer none, 201) | some z => (pv z.pb, 0)) := Lib.hid (by unfold foundV; rw [if_neg (by simp [he])])
    cases hz : findZ Z (p, id) with
    | none =>
      rw [hz] at hlk HF
      have HFV := Lib.hid HF.out
      simp only [Option.map_none, ptr, kv] at hlk
      clear h he hz HF
      go_enter Tryd.func53, Tryd.ntmps53
      go_wp2_with (first
        | (go_at_call 49; go_must (refine HN.out.mono ?_; rintro e w1 ⟨rfl, rfl⟩))
        | fail)
      go_ret2
      exact ⟨by rw [HFV.out]; rfl, rfl⟩
    | some z =>
      rw [hz] at hlk HF
      have HFV := Lib.hid HF.out
      simp only [Option.map_some, ptr, kv, pv] at hlk
      clear h he hz HF
      go_enter Tryd.func53, Tryd.ntmps53
      go_wp2_with (first
        | (go_at_call 49; go_must (refine HN.out.mono ?_; rintro e w1 ⟨rfl, rfl⟩))
        | fail)
      go_ret2
      exact ⟨by rw [HFV.out]; rfl, rfl⟩
  · have HFV : Hid (foundV Z (p, id) = (Value.pointer none, 212)) := Lib.hid (by unfold foundV; rw [if_pos (by simp [he])])
    rw [he] at HN
    clear h he
    go_enter Tryd.func53, Tryd.ntmps53
    go_wp2_with (first
      | (go_at_call 49; go_must (refine HN.out.mono ?_; rintro e w1 ⟨rfl, rfl⟩))
      | fail)
    go_ret2
    exact ⟨by rw [HFV.out]; rfl, rfl⟩
end Go.Proofs.YtkceaepbjdfccaaDoor
