/- More calls with known arguments: which names there are; the law's own look that the program is awake; what the reference says of each name. -/
import Derived.Test.YtkhgbpokoaklpaaGreatDoorPnA
namespace Go.Proofs.YtkhgbpokoaklpaaGreatDoor
open Go Go.AM

noncomputable def E1 : Env := { E0 with known := k94 :: cuts }
def k18 : Known := { f := 18, args := [], looks := [asc], v := .bool true, cnt := 2000, objs := [] }
def k20 : Known := { f := 20, args := [], looks := [asc], v := .slice (some ⟨1146, 0, none⟩) 52 52, cnt := 2000, objs := [{ b := 1146, cells := names, elem := 9, esz := 1, opn := true, frz := 0, sb := false }] }
def k21 : Known := { f := 21, args := [], looks := [], v := .slice (some ⟨0, 0, none⟩) 52 52, cnt := 1, objs := [{ b := 0, cells := names, elem := 9, esz := 0, opn := false, frz := 0, sb := false }] }
def pOf (n : List UInt8) (i o : Int) (ok : Bool) : Known := { f := 25, args := [bs n], looks := [], v := .tuple #[.int .i64 i, .int .i64 o, .bool ok], cnt := 20, objs := [] }
def cOf (n : List UInt8) : Known := { f := 47, args := [bs n], looks := [], v := .bool true, cnt := 20, objs := [] }
def prims : List Known := [pOf [100, 117, 112] 1 2 true, pOf [100, 114, 111, 112] 1 0 true, pOf [115, 119, 97, 112] 2 2 true, pOf [111, 118, 101, 114] 2 3 true, pOf [114, 111, 116] 3 3 true, pOf [110, 105, 112] 2 1 true, pOf [116, 117, 99, 107] 2 3 true, pOf [43] 2 1 true, pOf [45] 2 1 true, pOf [42] 2 1 true, pOf [47] 2 1 true, pOf [109, 111, 100] 2 1 true, pOf [110, 101, 103] 1 1 true, pOf [97, 98, 115] 1 1 true, pOf [109, 105, 110] 2 1 true, pOf [109, 97, 120] 2 1 true, pOf [60] 2 1 true, pOf [62] 2 1 true, pOf [61] 2 1 true, pOf [97, 110, 100] 2 1 true, pOf [111, 114] 2 1 true, pOf [110, 111, 116] 1 1 true, pOf [105, 110, 116, 63] 1 1 true, pOf [115, 116, 114, 63] 1 1 true, pOf [98, 111, 111, 108, 63] 1 1 true, pOf [108, 105, 115, 116, 63] 1 1 true, pOf [113, 117, 111, 116, 63] 1 1 true, pOf [98, 111, 120, 63] 1 1 true, pOf [108, 101, 110, 103, 116, 104] 1 1 true, pOf [97, 112, 112, 101, 110, 100] 2 1 true, pOf [110, 116, 104] 2 1 true, pOf [115, 108, 105, 99, 101] 3 1 true, pOf [119, 114, 97, 112] 1 1 true, pOf [112, 97, 105, 114] 2 1 true, pOf [117, 110, 112, 97, 105, 114] 1 2 true, pOf [114, 101, 118, 101, 114, 115, 101] 1 1 true, pOf [99, 117, 114, 114, 121] 2 1 true, pOf [99, 111, 109, 112, 111, 115, 101] 2 1 true, pOf [62, 115, 116, 114] 1 1 true, pOf [62, 105, 110, 116] 1 1 true, pOf [99, 97, 108, 108] 0 0 false, pOf [100, 105, 112] 0 0 false, pOf [107, 101, 101, 112] 0 0 false, pOf [105, 102] 0 0 false, pOf [119, 104, 101, 110] 0 0 false, pOf [116, 105, 109, 101, 115] 0 0 false, pOf [101, 97, 99, 104] 0 0 false, pOf [108, 111, 111, 112] 0 0 false, pOf [98, 111, 120] 1 1 true, pOf [103, 101, 116] 1 1 true, pOf [112, 117, 116] 2 0 true, pOf [46] 1 0 true]
def ctls : List Known := [cOf [99, 97, 108, 108], cOf [100, 105, 112], cOf [107, 101, 101, 112], cOf [105, 102], cOf [119, 104, 101, 110], cOf [116, 105, 109, 101, 115], cOf [101, 97, 99, 104], cOf [108, 111, 111, 112]]
set_option maxRecDepth 1000000
set_option maxHeartbeats 0
theorem k18_run (f : Nat → TypeId) : runOf E1 f k18 = true := by kernel_rfl
theorem k20_run (f : Nat → TypeId) : runOf E1 f k20 = true := by kernel_rfl
theorem k21_run (f : Nat → TypeId) : runOf E00 f k21 = true := by kernel_rfl
theorem prims_run (f : Nat → TypeId) : prims.all (runOf E00 f) = true := by kernel_rfl
theorem ctls_run (f : Nat → TypeId) : ctls.all (runOf E00 f) = true := by kernel_rfl
end Go.Proofs.YtkhgbpokoaklpaaGreatDoor
