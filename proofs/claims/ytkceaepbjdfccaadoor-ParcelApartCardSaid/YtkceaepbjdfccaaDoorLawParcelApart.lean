/-
'ParcelApart': the walk, over sha's tables.
-/
import Derived.Test.YtkceaepbjdfccaaDoorLawApart
import Derived.Test.YtkceaepbjdfccaaDoorFrameP
namespace Go.Proofs.YtkceaepbjdfccaaDoor
open Go.RowKit
theorem parcelApart_any (kk bg : List Int) (n seed at_ id : Int) (w : World) (hT : Tabs kk bg w) (hn : -9223372036854775808 ≤ n ∧ n ≤ 9223372036854775807) (hsd : -9223372036854775808 ≤ seed ∧ seed ≤ 9223372036854775807) (hat : -9223372036854775808 ≤ at_ ∧ at_ ≤ 9223372036854775807) (hid : 0 ≤ id ∧ id ≤ 4294967295) :
    Calls Tryd.prog 10 #[.int .i64 n, .int .i64 seed, .int .i64 at_, .int .u32 id] w fun e w' => e = .returned (.bool true) ∧ Kp [] w w' :=
  apart_any (mark kk bg) n seed at_ id w hn hat hsd ⟨hid.1, by have := hid.2; omega⟩ (mark_len kk bg) (fun W v l k hv hl => marked_any kk bg v l W (hT.kp k) hv hl)
    (fun W v l k hv hl => split_any kk bg id hid.1 (by have := hid.2; omega) v l W (hT.kp k) hv hl)
end Go.Proofs.YtkceaepbjdfccaaDoor
