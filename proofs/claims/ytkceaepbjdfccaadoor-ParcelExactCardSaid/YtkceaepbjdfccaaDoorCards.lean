/-
  DERIVED. GIVEN WITH THE SEED: THE CARDS: each row of YtkceaepbjdfccaaDoorRows.lean that lists a variable, with what it lists TIED to the program's text (the seventh form; the later family's looks); each row that meets fmt, with fmt's text TOLD by the authors' own Lean function (tested against real Go, not proved from fmt's source: count such statements apart). THE CARD IS WHAT COUNTS. Prove the row's statement (the work); the ties are given (YtkceaepbjdfccaaDoorTie.lean); close each card by the builder's one call (the guide's Derived/Test/ToyasCard.lean, 'card_holds'). Laid BY PROGRAM, IN A SANDBOX (cutbox-door.mjs). By AI agents, Wed Nov 11 2026. No macro, syntax, notation, axiom, sorry.
-/
import Derived.Test.YtkceaepbjdfccaaDoorRows
import GoSem.ClaimSeven
namespace Go.Proofs.YtkceaepbjdfccaaDoor
namespace Rows

/-- THE TIED CARD OF 'lethelaw25.SafetyIsHash'. -/
def safetyIsHashCard : Claim7 := { stood := { row := safetyIsHashRow, standIns := [], harness := (true, "cd4ab4dbe6eca2e915bcffe45175a85e9d8372287fdc5d49d8d4c058fe4c6668"), looks := false }, kinds := [], alts := [], laidByText := true, laidKinds := [.data, .data], laidTests := true, laidLooks := .later }
def SafetyIsHashCardSaid : Prop := Claim7.holds Tryd.pinned (.plain (OpenSpec.ofChange safetyIsHashSpec)) safetyIsHashCard

/-- THE TIED CARD OF 'lethelaw25.SafetyExact'. -/
def safetyExactCard : Claim7 := { stood := { row := safetyExactRow, standIns := [], harness := (true, "cd4ab4dbe6eca2e915bcffe45175a85e9d8372287fdc5d49d8d4c058fe4c6668"), looks := false }, kinds := [], alts := [], laidByText := true, laidKinds := [.data, .data, .data, .data], laidTests := true, laidLooks := .later }
def SafetyExactCardSaid : Prop := Claim7.holds Tryd.pinned (.plain (OpenSpec.ofChange safetyExactSpec)) safetyExactCard

/-- THE TIED CARD OF 'lethelaw25.SafetySame'. -/
def safetySameCard : Claim7 := { stood := { row := safetySameRow, standIns := [], harness := (true, "cd4ab4dbe6eca2e915bcffe45175a85e9d8372287fdc5d49d8d4c058fe4c6668"), looks := false }, kinds := [], alts := [], laidByText := true, laidKinds := [.data, .data], laidTests := true, laidLooks := .later }
def SafetySameCardSaid : Prop := Claim7.holds Tryd.pinned (.plain (OpenSpec.ofChange safetySameSpec)) safetySameCard

/-- THE TIED CARD OF 'lethelaw25.SafetyTells'. -/
def safetyTellsCard : Claim7 := { stood := { row := safetyTellsRow, standIns := [], harness := (true, "cd4ab4dbe6eca2e915bcffe45175a85e9d8372287fdc5d49d8d4c058fe4c6668"), looks := false }, kinds := [], alts := [], laidByText := true, laidKinds := [.data, .data], laidTests := true, laidLooks := .later }
def SafetyTellsCardSaid : Prop := Claim7.holds Tryd.pinned (.plain (OpenSpec.ofChange safetyTellsSpec)) safetyTellsCard

/-- THE TIED CARD OF 'lethelaw25.SafetyNames'. -/
def safetyNamesCard : Claim7 := { stood := { row := safetyNamesRow, standIns := [], harness := (true, "cd4ab4dbe6eca2e915bcffe45175a85e9d8372287fdc5d49d8d4c058fe4c6668"), looks := false }, kinds := [], alts := [], laidByText := true, laidKinds := [.data, .data], laidTests := true, laidLooks := .later }
def SafetyNamesCardSaid : Prop := Claim7.holds Tryd.pinned (.plain (OpenSpec.ofChange safetyNamesSpec)) safetyNamesCard

/-- THE TIED CARD OF 'lethelaw26.ParcelHands'. -/
def parcelHandsCard : Claim7 := { stood := { row := parcelHandsRow, standIns := [], harness := (true, "cd4ab4dbe6eca2e915bcffe45175a85e9d8372287fdc5d49d8d4c058fe4c6668"), looks := false }, kinds := [], alts := [], laidByText := true, laidKinds := [.data, .data], laidTests := true, laidLooks := .later }
def ParcelHandsCardSaid : Prop := Claim7.holds Tryd.pinned (.plain (OpenSpec.ofChange parcelHandsSpec)) parcelHandsCard

/-- THE TIED CARD OF 'lethelaw26.ParcelWhole'. -/
def parcelWholeCard : Claim7 := { stood := { row := parcelWholeRow, standIns := [], harness := (true, "cd4ab4dbe6eca2e915bcffe45175a85e9d8372287fdc5d49d8d4c058fe4c6668"), looks := false }, kinds := [], alts := [], laidByText := true, laidKinds := [.data, .data], laidTests := true, laidLooks := .later }
def ParcelWholeCardSaid : Prop := Claim7.holds Tryd.pinned (.plain (OpenSpec.ofChange parcelWholeSpec)) parcelWholeCard

/-- THE TIED CARD OF 'lethelaw26.ParcelApart'. -/
def parcelApartCard : Claim7 := { stood := { row := parcelApartRow, standIns := [], harness := (true, "cd4ab4dbe6eca2e915bcffe45175a85e9d8372287fdc5d49d8d4c058fe4c6668"), looks := false }, kinds := [], alts := [], laidByText := true, laidKinds := [.data, .data], laidTests := true, laidLooks := .later }
def ParcelApartCardSaid : Prop := Claim7.holds Tryd.pinned (.plain (OpenSpec.ofChange parcelApartSpec)) parcelApartCard

/-- THE TIED CARD OF 'lethelaw26.ParcelExact'. -/
def parcelExactCard : Claim7 := { stood := { row := parcelExactRow, standIns := [], harness := (true, "cd4ab4dbe6eca2e915bcffe45175a85e9d8372287fdc5d49d8d4c058fe4c6668"), looks := false }, kinds := [], alts := [], laidByText := true, laidKinds := [.data, .data, .data, .data], laidTests := true, laidLooks := .later }
def ParcelExactCardSaid : Prop := Claim7.holds Tryd.pinned (.plain (OpenSpec.ofChange parcelExactSpec)) parcelExactCard

/-- THE SECOND FORM's CARD OF 'lethelaw25.SafetyIsHash'. -/
def safetyIsHashUptoCard : Claim7 := { stood := { row := safetyIsHashUptoRow, standIns := [], harness := (true, "cd4ab4dbe6eca2e915bcffe45175a85e9d8372287fdc5d49d8d4c058fe4c6668"), looks := false }, kinds := [], alts := [], laidByText := true, laidKinds := [.data, .data], laidTests := true, laidLooks := .later }
def SafetyIsHashUptoCardSaid : Prop := Claim7.holds Tryd.pinned (.plain (OpenSpec.upto safetyIsHashSpec)) safetyIsHashUptoCard

/-- THE SECOND FORM's CARD OF 'lethelaw25.SafetyExact'. -/
def safetyExactUptoCard : Claim7 := { stood := { row := safetyExactUptoRow, standIns := [], harness := (true, "cd4ab4dbe6eca2e915bcffe45175a85e9d8372287fdc5d49d8d4c058fe4c6668"), looks := false }, kinds := [], alts := [], laidByText := true, laidKinds := [.data, .data, .data, .data], laidTests := true, laidLooks := .later }
def SafetyExactUptoCardSaid : Prop := Claim7.holds Tryd.pinned (.plain (OpenSpec.upto safetyExactSpec)) safetyExactUptoCard

/-- THE SECOND FORM's CARD OF 'lethelaw25.SafetySame'. -/
def safetySameUptoCard : Claim7 := { stood := { row := safetySameUptoRow, standIns := [], harness := (true, "cd4ab4dbe6eca2e915bcffe45175a85e9d8372287fdc5d49d8d4c058fe4c6668"), looks := false }, kinds := [], alts := [], laidByText := true, laidKinds := [.data, .data], laidTests := true, laidLooks := .later }
def SafetySameUptoCardSaid : Prop := Claim7.holds Tryd.pinned (.plain (OpenSpec.upto safetySameSpec)) safetySameUptoCard

/-- THE SECOND FORM's CARD OF 'lethelaw25.SafetyTells'. -/
def safetyTellsUptoCard : Claim7 := { stood := { row := safetyTellsUptoRow, standIns := [], harness := (true, "cd4ab4dbe6eca2e915bcffe45175a85e9d8372287fdc5d49d8d4c058fe4c6668"), looks := false }, kinds := [], alts := [], laidByText := true, laidKinds := [.data, .data], laidTests := true, laidLooks := .later }
def SafetyTellsUptoCardSaid : Prop := Claim7.holds Tryd.pinned (.plain (OpenSpec.upto safetyTellsSpec)) safetyTellsUptoCard

/-- THE SECOND FORM's CARD OF 'lethelaw25.SafetyNames'. -/
def safetyNamesUptoCard : Claim7 := { stood := { row := safetyNamesUptoRow, standIns := [], harness := (true, "cd4ab4dbe6eca2e915bcffe45175a85e9d8372287fdc5d49d8d4c058fe4c6668"), looks := false }, kinds := [], alts := [], laidByText := true, laidKinds := [.data, .data], laidTests := true, laidLooks := .later }
def SafetyNamesUptoCardSaid : Prop := Claim7.holds Tryd.pinned (.plain (OpenSpec.upto safetyNamesSpec)) safetyNamesUptoCard

/-- THE SECOND FORM's CARD OF 'lethelaw26.ParcelHands'. -/
def parcelHandsUptoCard : Claim7 := { stood := { row := parcelHandsUptoRow, standIns := [], harness := (true, "cd4ab4dbe6eca2e915bcffe45175a85e9d8372287fdc5d49d8d4c058fe4c6668"), looks := false }, kinds := [], alts := [], laidByText := true, laidKinds := [.data, .data], laidTests := true, laidLooks := .later }
def ParcelHandsUptoCardSaid : Prop := Claim7.holds Tryd.pinned (.plain (OpenSpec.upto parcelHandsSpec)) parcelHandsUptoCard

/-- THE SECOND FORM's CARD OF 'lethelaw26.ParcelWhole'. -/
def parcelWholeUptoCard : Claim7 := { stood := { row := parcelWholeUptoRow, standIns := [], harness := (true, "cd4ab4dbe6eca2e915bcffe45175a85e9d8372287fdc5d49d8d4c058fe4c6668"), looks := false }, kinds := [], alts := [], laidByText := true, laidKinds := [.data, .data], laidTests := true, laidLooks := .later }
def ParcelWholeUptoCardSaid : Prop := Claim7.holds Tryd.pinned (.plain (OpenSpec.upto parcelWholeSpec)) parcelWholeUptoCard

/-- THE SECOND FORM's CARD OF 'lethelaw26.ParcelApart'. -/
def parcelApartUptoCard : Claim7 := { stood := { row := parcelApartUptoRow, standIns := [], harness := (true, "cd4ab4dbe6eca2e915bcffe45175a85e9d8372287fdc5d49d8d4c058fe4c6668"), looks := false }, kinds := [], alts := [], laidByText := true, laidKinds := [.data, .data], laidTests := true, laidLooks := .later }
def ParcelApartUptoCardSaid : Prop := Claim7.holds Tryd.pinned (.plain (OpenSpec.upto parcelApartSpec)) parcelApartUptoCard

/-- THE SECOND FORM's CARD OF 'lethelaw26.ParcelExact'. -/
def parcelExactUptoCard : Claim7 := { stood := { row := parcelExactUptoRow, standIns := [], harness := (true, "cd4ab4dbe6eca2e915bcffe45175a85e9d8372287fdc5d49d8d4c058fe4c6668"), looks := false }, kinds := [], alts := [], laidByText := true, laidKinds := [.data, .data, .data, .data], laidTests := true, laidLooks := .later }
def ParcelExactUptoCardSaid : Prop := Claim7.holds Tryd.pinned (.plain (OpenSpec.upto parcelExactSpec)) parcelExactUptoCard
end Rows
end Go.Proofs.YtkceaepbjdfccaaDoor
