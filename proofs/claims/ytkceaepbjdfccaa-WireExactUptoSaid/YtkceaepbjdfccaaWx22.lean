/-
table.reads
-/
import Derived.Test.YtkceaepbjdfccaaWx17
namespace Go.Proofs.Ytkceaepbjdfccaa
open Go.RowKit
theorem qxNum1 {w0 w : World} {o : Nat → Nat} {t : Nat} {C : Nat → Pr} {vs : Nat → Value} {n : Nat} (h : WX w0 w o t C vs n) (i : Nat) (hi : i < 8) {m : Qs} (hC : C i = CQ (some m)) :
    Calls Try.prog 68 #[vs i, .int .i64 1] w fun r w' => r = .returned (.int .i64 (numL (fieldL m.b m.s 0 1).1)) ∧ WX w0 w' o t (upd C i (CQ (some ⟨m.b, (fieldL m.b m.s 0 1).2⟩))) vs n ∧ Fr o [] w w' := qxNum h i hi hC 1 (by omega)
theorem qxNum2 {w0 w : World} {o : Nat → Nat} {t : Nat} {C : Nat → Pr} {vs : Nat → Value} {n : Nat} (h : WX w0 w o t C vs n) (i : Nat) (hi : i < 8) {m : Qs} (hC : C i = CQ (some m)) :
    Calls Try.prog 68 #[vs i, .int .i64 2] w fun r w' => r = .returned (.int .i64 (numL (fieldL m.b m.s 0 2).1)) ∧ WX w0 w' o t (upd C i (CQ (some ⟨m.b, (fieldL m.b m.s 0 2).2⟩))) vs n ∧ Fr o [] w w' := qxNum h i hi hC 2 (by omega)
theorem qxNum4 {w0 w : World} {o : Nat → Nat} {t : Nat} {C : Nat → Pr} {vs : Nat → Value} {n : Nat} (h : WX w0 w o t C vs n) (i : Nat) (hi : i < 8) {m : Qs} (hC : C i = CQ (some m)) :
    Calls Try.prog 68 #[vs i, .int .i64 4] w fun r w' => r = .returned (.int .i64 (numL (fieldL m.b m.s 0 4).1)) ∧ WX w0 w' o t (upd C i (CQ (some ⟨m.b, (fieldL m.b m.s 0 4).2⟩))) vs n ∧ Fr o [] w w' := qxNum h i hi hC 4 (by omega)
end Go.Proofs.Ytkceaepbjdfccaa
