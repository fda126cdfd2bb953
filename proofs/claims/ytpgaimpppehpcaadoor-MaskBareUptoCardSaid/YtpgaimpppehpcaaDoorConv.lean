/- A slice of new bytes, turned into a string. -/
import Derived.Test.YtpgaimpppehpcaaDoorProg
import Derived.WalkKit
import Derived.KernelRfl
import Derived.Laws.BytesArg
import Derived.Lib.Builder
import Derived.Shelf.Strings.Builder1
namespace Go.Proofs.YtpgaimpppehpcaaDoor
open Go.RowKit

/-- 'string([]byte{b})', the byte in a new block. -/
theorem conv_one (w : World) (b : Int) : (convert 50 9 (.slice (some ⟨w.heap.size, 0, none⟩) 1 1)).run Tryd.prog (w.alloc (.cells #[.int .u8 b] 5)) = .ok (.string (strOfNums [b])) (w.alloc (.cells #[.int .u8 b] 5)) :=
  run_convert_bytes_arg (w.alloc (.cells #[.int .u8 b] 5)) 50 5 Tryd.underlying50 Tryd.underlying5 w.heap.size 0 1 1 [b] rfl (fun i hi => by
    obtain rfl : i = 0 := by omega
    exact World.cell?_alloc_at _ _ _ _ rfl) 9 Tryd.underlying9

theorem conv_bytes (w : World) (x y : Int) : (convert 50 9 (.slice (some ⟨w.heap.size, 0, none⟩) 2 2)).run Tryd.prog (w.alloc (.cells #[.int .u8 x, .int .u8 y] 5)) = .ok (.string (strOfNums [x, y])) (w.alloc (.cells #[.int .u8 x, .int .u8 y] 5)) :=
  run_convert_bytes_arg _ 50 5 Tryd.underlying50 Tryd.underlying5 w.heap.size 0 2 2 [x, y] rfl (fun i hi => by
    rw [Nat.zero_add]
    obtain rfl | rfl : i = 0 ∨ i = 1 := by omega
    · exact World.cell?_alloc_at _ _ _ _ rfl
    · exact World.cell?_alloc_at _ _ _ _ rfl) 9 Tryd.underlying9

theorem nums_size (xs : List Int) : (strOfNums xs).size = xs.length := strOfNums_size xs
theorem cells_str (acc : List UInt8) (s : ByteArray) : Lib.byteCells acc ++ Lib.strCells s = Lib.byteCells (acc ++ s.data.toList) := by
  rw [Lib.byteCells_append]; rfl
end Go.Proofs.YtpgaimpppehpcaaDoor
