/- dirs: fits. -/
import Derived.Test.YtoeiipkikpalaaaD2a
import Derived.Test.YtoeiipkikpalaaaD2b
import Derived.Test.YtoeiipkikpalaaaD2c
import Derived.Test.YtoeiipkikpalaaaD2d
set_option linter.unusedVariables false
set_option linter.unusedSimpArgs false
namespace Go.Proofs.Ytoeiipkikpalaaa
open Go.RowKit
theorem fits_any {v m1 m2 N : Nat} {it d z u r : Value} {s : PSt} {AA : Option Addr} {cc n : Nat} (w : World) (h : VolSt w v m1 m2 N it d z u r s AA cc) (hok : s.Ok n) (kd ino ch : Nat) (nm vl : Bs)
    (hkd : kd < 256) (hino : ino < 4294967296) (hch : ch < 4294967296) (hvl : vl.length ≤ 1048576) :
    Calls Try.prog 56 #[.pointer (some ⟨v, 0, none⟩), .agg #[.int .u8 (kd : Nat), .int .u32 (ino : Nat), .string (str nm), .int .u32 (ch : Nat), .string (str vl)]] w fun e w' => e = .returned (.bool (fitsB s ⟨⟨kd, ino, nm, ch⟩, vl⟩)) ∧ Below w.heap.size w w' := by
  rcases Nat.decEq kd 2 with h2 | h2
  · rcases Nat.decEq kd 3 with h3 | h3
    · rcases Nat.decEq kd 4 with h4 | h4
      · exact fits_rest w h hok kd ino ch nm vl hkd hino hch hvl (Lib.hid h2) (Lib.hid h3) (Lib.hid h4)
      · exact fits_attr w h hok kd ino ch nm vl hkd hino hch hvl (Lib.hid h2) (Lib.hid h3) (Lib.hid h4)
    · exact fits_chunk w h hok kd ino ch nm vl hkd hino hch hvl (Lib.hid h2) (Lib.hid h3)
  · exact fits_entry w h hok kd ino ch nm vl hkd hino hch hvl (Lib.hid h2)
end Go.Proofs.Ytoeiipkikpalaaa
