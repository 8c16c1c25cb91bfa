/-
state.apart; keys and hellos, compared with zeros.
-/
import Derived.Test.YtkceaepbjdfccaaSt2
import Derived.Deep.QuietTactic
import Derived.BigQuiet
import Derived.Deep.CutBlock
import Derived.Deep.DeepCutAuto
namespace Go.Proofs.Ytkceaepbjdfccaa
open Go.RowKit
/-- thirty-two zeros -/
def z32 : List Int := List.replicate 32 0
def St.noHello (S : St) : Prop := S.hid = z32 ∧ S.ho = z32 ∧ S.hp = 0
instance (S : St) : Decidable S.noHello := by unfold St.noHello; infer_instance
/-- how far apart -/
def gap (a b : Int) : Int := max (a - b) (-(a - b))
/-- may the counts be these? -/
def St.cnt (S : St) : Bool :=
  if 1 < gap S.own S.turns then false
  else if S.turns = 0 ∧ (S.rk ≠ z32 ∨ S.got ≠ 0) then false
  else if S.own = 0 then decide (S.sk = z32 ∧ S.sent = 0 ∧ S.prev = 0 ∧ S.ser = 0 ∧ S.noHello)
  else if S.own = 1 then decide (S.prev = 0 ∧ S.ser = S.sent)
  else decide (S.sent ≤ S.ser ∧ S.prev ≤ S.ser - S.sent)
set_option maxRecDepth 100000 in
theorem apart_any (a b : Int) (ha : W32 a) (hb : W32 b) (w : World) :
    Calls Try.prog 75 #[.int .u32 a, .int .u32 b] w fun e w' => e = .returned (.int .i64 (gap a b)) ∧ w = w' := by
  obtain ⟨a0, a1⟩ := ha
  obtain ⟨b0, b1⟩ := hb
  have e1 : IntKind.i64.wrap a = a := IntWalk.i64_in _ (by omega)
  have e2 : IntKind.i64.wrap b = b := IntWalk.i64_in _ (by omega)
  have e3 : IntKind.i64.wrap (a - b) = a - b := IntWalk.i64_in _ (by omega)
  have e4 : IntKind.i64.wrap (-(a - b)) = -(a - b) := IntWalk.i64_in _ (by omega)
  by_cases hc : a - b < -(a - b)
  · have HG : Hid (gap a b = -(a - b)) := Lib.hid (by unfold gap; omega)
    generalize gap a b = G at *
    go_enter Try.func75, Try.ntmps75
    go_wp2_with fail
    go_ret
    exact ⟨by rw [HG.out]; rfl, rfl⟩
  · have hc2 : -(a - b) ≤ a - b := by omega
    have HG : Hid (gap a b = a - b) := Lib.hid (by unfold gap; omega)
    generalize gap a b = G at *
    go_enter Try.func75, Try.ntmps75
    go_wp2_with fail
    go_ret
    exact ⟨by rw [HG.out]; rfl, rfl⟩
theorem eq_key (l : List Int) (hl : l.length = 32) (W : World) : (binOp .eql 37 (.agg (iv l).toArray) (.agg #[.int .u8 0, .int .u8 0, .int .u8 0, .int .u8 0, .int .u8 0, .int .u8 0, .int .u8 0, .int .u8 0, .int .u8 0, .int .u8 0, .int .u8 0, .int .u8 0, .int .u8 0, .int .u8 0, .int .u8 0, .int .u8 0, .int .u8 0, .int .u8 0, .int .u8 0, .int .u8 0, .int .u8 0, .int .u8 0, .int .u8 0, .int .u8 0, .int .u8 0, .int .u8 0, .int .u8 0, .int .u8 0, .int .u8 0, .int .u8 0, .int .u8 0, .int .u8 0])).run Try.prog W = .ok (.bool (decide (l = z32))) W := by
  rw [show #[.int .u8 0, .int .u8 0, .int .u8 0, .int .u8 0, .int .u8 0, .int .u8 0, .int .u8 0, .int .u8 0, .int .u8 0, .int .u8 0, .int .u8 0, .int .u8 0, .int .u8 0, .int .u8 0, .int .u8 0, .int .u8 0, .int .u8 0, .int .u8 0, .int .u8 0, .int .u8 0, .int .u8 0, .int .u8 0, .int .u8 0, .int .u8 0, .int .u8 0, .int .u8 0, .int .u8 0, .int .u8 0, .int .u8 0, .int .u8 0, .int .u8 0, .int .u8 0] = (iv z32).toArray from by kernel_rfl, run_eql_struct, run_eq_bytes 9998 32 37 l z32 hl rfl Try.underlying37]
  rfl
theorem ne_key (l : List Int) (hl : l.length = 32) (W : World) : (binOp .neq 37 (.agg (iv l).toArray) (.agg #[.int .u8 0, .int .u8 0, .int .u8 0, .int .u8 0, .int .u8 0, .int .u8 0, .int .u8 0, .int .u8 0, .int .u8 0, .int .u8 0, .int .u8 0, .int .u8 0, .int .u8 0, .int .u8 0, .int .u8 0, .int .u8 0, .int .u8 0, .int .u8 0, .int .u8 0, .int .u8 0, .int .u8 0, .int .u8 0, .int .u8 0, .int .u8 0, .int .u8 0, .int .u8 0, .int .u8 0, .int .u8 0, .int .u8 0, .int .u8 0, .int .u8 0, .int .u8 0])).run Try.prog W = .ok (.bool (!decide (l = z32))) W := by
  rw [show #[.int .u8 0, .int .u8 0, .int .u8 0, .int .u8 0, .int .u8 0, .int .u8 0, .int .u8 0, .int .u8 0, .int .u8 0, .int .u8 0, .int .u8 0, .int .u8 0, .int .u8 0, .int .u8 0, .int .u8 0, .int .u8 0, .int .u8 0, .int .u8 0, .int .u8 0, .int .u8 0, .int .u8 0, .int .u8 0, .int .u8 0, .int .u8 0, .int .u8 0, .int .u8 0, .int .u8 0, .int .u8 0, .int .u8 0, .int .u8 0, .int .u8 0, .int .u8 0] = (iv z32).toArray from by kernel_rfl, run_neq_struct, run_eq_bytes 9998 32 37 l z32 hl rfl Try.underlying37]
  rfl
theorem eq_hello (i o : List Int) (p : Int) (hi : i.length = 32) (ho : o.length = 32) (W : World) : (binOp .eql 42 (.agg (hel i o p).toArray) (.agg Try.zeroCells42)).run Try.prog W = .ok (.bool (decide (i = z32) && (decide (o = z32) && decide (p = 0)))) W := by
  rw [show Try.zeroCells42 = (hel z32 z32 0).toArray from by kernel_rfl, run_eql_struct, run_eq_hello 9997 i o z32 z32 p 0 hi ho rfl rfl]
  rfl
/-- a load of many cells where the operation is guarded and is run -/
theorem wpList_load_g {P : Program} {ops : Array Oper} {rest : List Oper} {op : Oper} {a : Act} {w : World} {Q : Exit → Act → World → Prop} (ty : TypeId) (x : Operand) (ho : op.op = .load ty x)
    (b o : Nat) (hx : a.eval x = .pointer (some ⟨b, o, none⟩)) (hw : Region.wanted op (yielded ops a.tmps) = true) (cs : List Value) (d : TypeDesc) (hc : w.rangeAt b o cs)
    (hu : P.underlying ty = some d) (hd : d.isRow = true) (hi : (P.info? ty).map (·.size) = some cs.length)
    (h : wpList P ops Q rest (a.put op.dst (.agg cs.toArray)) w) : wpList P ops Q (op :: rest) a w := by
  refine wpList_step fun K hK => ?_
  simp only [hw, if_true]
  exact wp_load_mid ty x ho b o hx cs d hc hu hd hi (hK _ _ h)
end Go.Proofs.Ytkceaepbjdfccaa
