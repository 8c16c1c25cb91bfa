/-
'ParcelHands': the walk, over sha's tables.
-/
import Derived.Test.YtkceaepbjdfccaaDoorLawHands
import Derived.Test.YtkceaepbjdfccaaDoorFrameP
namespace Go.Proofs.YtkceaepbjdfccaaDoor
open Go.RowKit
theorem parcelHands_any (kk bg : List Int) (n mk id : Int) (w : World) (hT : Tabs kk bg w) (hn : -9223372036854775808 ≤ n ∧ n ≤ 9223372036854775807) (hmk : -9223372036854775808 ≤ mk ∧ mk ≤ 9223372036854775807) (hid : 0 ≤ id ∧ id ≤ 4294967295) :
    Calls Tryd.prog 8 #[.int .i64 n, .int .i64 mk, .int .u32 id] w fun e w' => e = .returned (.bool true) ∧ Kp [] w w' :=
  hands_any (mark kk bg) n mk id w hn hmk ⟨hid.1, by have := hid.2; omega⟩ (mark_len kk bg) (fun W v l k hv hl => marked_any kk bg v l W (hT.kp k) hv hl)
    (fun W v l k hv hl => split_anyD kk bg id hid.1 (by have := hid.2; omega) v l W (hT.kp k) hv hl)
end Go.Proofs.YtkceaepbjdfccaaDoor
