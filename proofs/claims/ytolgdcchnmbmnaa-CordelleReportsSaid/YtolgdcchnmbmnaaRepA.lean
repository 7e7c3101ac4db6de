/- Package report: Of, of the piece of a report that may be. No condition but how many blocks. -/
import Derived.Test.YtolgdcchnmbmnaaRep6
namespace Go.Proofs.Ytolgdcchnmbmnaa
open Go.RowKit BigFrame

theorem rep_Of (s : Int) (y : Bool) (c t p b : Int) (l : List BkR) (sb : ByteArray) (hsb : bytesI sb = bodyR s y c t p b l) (hz : mayR y c t p b l = true) (hs : U32 s) (ht : U32 t) (hp : U32 p) (hb : U32 b) (hl : ∀ x ∈ l, x.Ok) (n : Nat) (hln : l.length = n) (w : World) :
    Calls Try.prog 9 #[.agg #[.int .i64 (n : Int), .int .i64 (kindR y), .string sb]] w fun e w' => ∃ la cp, e = .returned (.tuple #[.agg #[.int .u32 s, .bool y, .int .i64 c, .int .u32 t, .int .u32 p, .int .u32 b, .slice la n cp], .int .i64 0]) ∧ BkAt w' la n cp l ∧ Below w.heap.size w w' := by
  cases y
  · exact rep_Of_false s c t p b l sb hsb hz hs ht hp hb hl n hln w
  · exact rep_Of_true s c t p b l sb hsb hz hs ht hp hb hl n hln w
end Go.Proofs.Ytolgdcchnmbmnaa
