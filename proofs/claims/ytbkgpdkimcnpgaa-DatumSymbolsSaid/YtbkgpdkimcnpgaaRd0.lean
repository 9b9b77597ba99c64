/- strings.IndexByte, by the shelf. -/
import Derived.Test.YtbkgpdkimcnpgaaProg
import Derived.Test.YtbkgpdkimcnpgaaAb25
import Derived.Shelf.Lay
import Derived.Shelf.Small.Strs
import Derived.Shelf.LaysM
namespace Go.Proofs
open Go.Shelf
set_option linter.unusedVariables false
shelf_lay Lays.n137 Nm 137 at Try as Try.lays137
open Go.RowKit Go.Lib in
theorem Try.indexByte (s : ByteArray) (c : Int) (w : World) :
    Calls Try.prog 72 #[.string s, .int .u8 c] w fun e w' => e = .returned (.int .i64 (Lib.indexByte s.data.toList c.toNat.toUInt8)) ∧ w' = w := Any.strings_IndexByte Try.lays137 s c w
end Go.Proofs
