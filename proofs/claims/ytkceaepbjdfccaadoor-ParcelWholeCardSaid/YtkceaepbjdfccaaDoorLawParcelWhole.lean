/-
'ParcelWhole': the walk, over sha's tables.
-/
import Derived.Test.YtkceaepbjdfccaaDoorLawWhole
import Derived.Test.YtkceaepbjdfccaaDoorFrameP
namespace Go.Proofs.YtkceaepbjdfccaaDoor
open Go.RowKit
theorem parcelWhole_any (kk bg : List Int) (n seed id : Int) (v : Value) (gs : List Int) (w : World) (hT : Tabs kk bg w) (hn : -9223372036854775808 ≤ n ∧ n ≤ 9223372036854775807) (hsd : -9223372036854775808 ≤ seed ∧ seed ≤ 9223372036854775807) (hid : 0 ≤ id ∧ id ≤ 4294967295)
    (hO : Rd w v (zv gs)) (hb : gs.length ≤ 140737488351232 ∧ ∀ x ∈ gs, -9223372036854775808 ≤ x ∧ x ≤ 9223372036854775807) :
    Calls Tryd.prog 9 #[.int .i64 n, .int .i64 seed, .int .u32 id, v] w fun e w' => e = .returned (.bool true) ∧ Kp [] w w' :=
  whole_any (mark kk bg) n seed id v gs w hn hsd ⟨hid.1, by have := hid.2; omega⟩ hO hb.2 (mark_len kk bg) (fun W v l k hv hl => marked_any kk bg v l W (hT.kp k) hv hl)
    (fun W v l k hv hl => split_any kk bg id hid.1 (by have := hid.2; omega) v l W (hT.kp k) hv hl)
end Go.Proofs.YtkceaepbjdfccaaDoor
