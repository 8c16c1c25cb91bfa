/-
lethelaw25.rest; plain laws of texts that read, or don't, as a number.
-/
import Derived.Test.YtkceaepbjdfccaaDoorNumb3
namespace Go.Proofs.YtkceaepbjdfccaaDoor
open Go.RowKit
/-- n by the rest -/
def rs (n m : Int) : Int := (n.tmod m + m) % m
theorem rs_rng (n m : Int) (h : 0 < m) : 0 ≤ rs n m ∧ rs n m < m := ⟨Int.emod_nonneg _ (by omega), Int.emod_lt_of_pos _ h⟩
set_option maxRecDepth 100000 in
theorem rest_any (n m : Int) (w : World) (h0 : 0 < m) (h1 : m ≤ 1000) :
    Calls Tryd.prog 20 #[.int .i64 n, .int .i64 m] w fun e w' => e = .returned (.int .i64 (rs n m)) ∧ w = w' := by
  have hm : (m == 0) = false := by rw [beq_eq_false_iff_ne]; omega
  have hl : -m < n.tmod m := by
    have := Int.lt_tmod_of_pos n h0
    omega
  have hh : n.tmod m < m := Int.tmod_lt_of_pos n h0
  have HR : Hid (rs n m = (n.tmod m + m) % m) := Lib.hid rfl
  have hw : IntKind.i64.wrap (n.tmod m + m) = n.tmod m + m := IntWalk.i64_in _ (by omega)
  have h2 : 0 ≤ n.tmod m + m := by omega
  go_enter Tryd.func20, Tryd.ntmps20
  go_wp2_with fail
  go_ret
  exact ⟨by rw [HR.out]; rfl, rfl⟩
theorem rd_of {l d : List UInt8} (h1 : l.filter dig = d) (h2 : l.all (fun c => dig c || sep c) = true) (hl : d.length = 60) : rdS l = d ∧ rdErr l = 0 := by
  have h : rdOk l = true := by unfold rdOk; rw [h2, h1]; simpa using hl
  exact ⟨by unfold rdS; rw [if_pos h, h1], by unfold rdErr; rw [if_pos h]⟩
theorem rd_len {l : List UInt8} (h : (l.filter dig).length ≠ 60) : rdErr l = 250 := by
  unfold rdErr; rw [if_neg]
  unfold rdOk
  simp [h]
theorem rd_has {l : List UInt8} {c : UInt8} (h : c ∈ l) (hb : (dig c || sep c) = false) : rdErr l = 250 := by
  unfold rdErr; rw [if_neg]
  unfold rdOk
  rw [Bool.and_eq_true]
  rintro ⟨h1, _⟩
  have := List.all_eq_true.1 h1 c h
  rw [hb] at this
  cases this
/-- the texts that hold no digit of ours -/
def fore : List (List UInt8) := [[196, 176], [196, 185], [239, 188, 144], [217, 160], [176], [255], [0], [226, 128, 176]]
theorem fore_bad (j : Nat) (h : j < 8) : ∃ c, c ∈ fore.getD j [] ∧ (dig c || sep c) = false := by
  have : j = 0 ∨ j = 1 ∨ j = 2 ∨ j = 3 ∨ j = 4 ∨ j = 5 ∨ j = 6 ∨ j = 7 := by omega
  rcases this with rfl | rfl | rfl | rfl | rfl | rfl | rfl | rfl
  · exact ⟨196, by decide, by decide⟩
  · exact ⟨196, by decide, by decide⟩
  · exact ⟨239, by decide, by decide⟩
  · exact ⟨217, by decide, by decide⟩
  · exact ⟨176, by decide, by decide⟩
  · exact ⟨255, by decide, by decide⟩
  · exact ⟨0, by decide, by decide⟩
  · exact ⟨226, by decide, by decide⟩
/-- with another digit at k -/
def wrongD (d : List UInt8) (k : Nat) (c : UInt8) : List UInt8 := d.take k ++ ([c] ++ d.drop (k + 1))
theorem wrongD_ok {d : List UInt8} (hd : AllDig d) (hl : d.length = 60) (k : Nat) (hk : k < 60) (c : UInt8) (hc : dig c = true) (hne : c ≠ d.getD k 0) :
    rdErr (wrongD d k c) = 0 ∧ rdS (wrongD d k c) ≠ d := by
  have hw : AllDig (wrongD d k c) := by
    refine AllDig.app (fun x hx => hd x (List.mem_of_mem_take hx)) (AllDig.app (fun x hx => ?_) (fun x hx => hd x (List.mem_of_mem_drop hx)))
    rw [List.mem_singleton] at hx
    subst hx; exact hc
  have hwl : (wrongD d k c).length = 60 := by simp [wrongD, hl]; omega
  have ho := rd_of (d := wrongD d k c) hw.filter (List.all_eq_true.2 (fun x hx => by rw [hw x hx]; rfl)) hwl
  refine ⟨ho.2, ?_⟩
  rw [ho.1]
  intro e
  apply hne
  have h2 : (wrongD d k c)[k]? = some c := by
    unfold wrongD
    rw [List.getElem?_append_right (by simp [hl]; omega), List.length_take, hl, show k - min k 60 = 0 by omega]
    rfl
  rw [e] at h2
  rw [List.getD_eq_getElem?_getD, h2]; rfl
/-- the turned digit -/
def turnD (D r : Int) : UInt8 := UInt8.ofNat (48 + (D - 48 + 1 + r) % 10).toNat
theorem turnD_val (D r : Int) : ((turnD D r).toNat : Int) = 48 + (D - 48 + 1 + r) % 10 := by
  have h := u8_ofInt (48 + (D - 48 + 1 + r) % 10) (by omega) (by omega)
  simp only [bval, Value.int.injEq, true_and] at h
  exact h
theorem turnD_dig (D r : Int) : dig (turnD D r) = true := by
  have h := turnD_val D r
  unfold dig
  simp only [Bool.and_eq_true, decide_eq_true_eq]
  omega
theorem turnD_ne (c : UInt8) (r : Int) (h0 : 0 ≤ r) (h1 : r < 9) : turnD (c.toNat : Int) r ≠ c := by
  intro e
  have h := turnD_val (c.toNat : Int) r
  rw [e] at h
  omega
/-- what is typed: digits with blanks between -/
structure Typed (d l : List UInt8) (i : Nat) (n : Nat) : Prop where
  f : l.filter dig = d.take i
  a : l.all (fun c => dig c || sep c) = true
  n : l.length ≤ n
theorem Typed.sep {d l : List UInt8} {i n : Nat} (h : Typed d l i n) (c : UInt8) (hc : sep c = true) (hd : dig c = false) : Typed d (l ++ [c]) i (n + 1) := by
  refine ⟨?_, ?_, by simpa using h.n⟩
  · rw [List.filter_append, h.f]; simp [hd]
  · rw [List.all_append, h.a]; simp [hc]
theorem Typed.dig {d l : List UInt8} {i n : Nat} (h : Typed d l i n) (hd : AllDig d) (hi : i < d.length) : Typed d (l ++ (d.drop i).take 1) (i + 1) (n + 1) := by
  have e : (d.drop i).take 1 = [d[i]] := by rw [List.drop_eq_getElem_cons hi]; rfl
  have hg := hd _ (List.getElem_mem hi)
  rw [e]
  refine ⟨?_, ?_, by simpa using h.n⟩
  · rw [List.filter_append, h.f, take_snoc d i hi]; simp [hg]
  · rw [List.all_append, h.a]; simp [hg]
/-- a byte out of the four that may stand between -/
theorem four_cut (r : Nat) (h : r < 4) : ∃ c : UInt8, (strOf [32, 9, 10, 45]).extract r (r + 1) = strOf [c] ∧ sep c = true ∧ dig c = false := by
  rw [strOf_cut]
  have : r = 0 ∨ r = 1 ∨ r = 2 ∨ r = 3 := by omega
  rcases this with rfl | rfl | rfl | rfl
  · exact ⟨32, rfl, by decide, by decide⟩
  · exact ⟨9, rfl, by decide, by decide⟩
  · exact ⟨10, rfl, by decide, by decide⟩
  · exact ⟨45, rfl, by decide, by decide⟩
end Go.Proofs.YtkceaepbjdfccaaDoor
