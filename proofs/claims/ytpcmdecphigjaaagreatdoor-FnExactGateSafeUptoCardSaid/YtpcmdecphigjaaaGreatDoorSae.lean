/- Part 5 of a proof: The table of types of this translation, and what a proof of a contract begins with. Pure data of the laws, printed by genlaws.py: structures and how they lie in memory. Helpers of the contracts' proofs: indexing, loops, rows. From the statement's reading of an argument to my relation 'Rd': plain types. From the statement's reading to my relation 'Rd', beside package variables that hold interface values. Data of a type of the laws is a structure, printed by genlaws.py. What stands behind a call that writes nothing: the statement's 'post', out of my relation 'Kp'. What the statement's list of pa -/
import Derived.Test.YtpcmdecphigjaaaGreatDoorSaa
import Derived.Test.YtpcmdecphigjaaaGreatDoorSab
import Derived.Test.YtpcmdecphigjaaaGreatDoorSac
import Derived.Test.YtpcmdecphigjaaaGreatDoorSad
import Derived.Test.YtpcmdecphigjaaaGreatDoorChecked
import Derived.KernelRfl
import Derived.Test.YtpcmdecphigjaaaGreatDoorRows
import Derived.JoinedCond
import Derived.OpenShut
import Derived.ReadAgain
import Derived.RowKit
import Derived.Test.YtpcmdecphigjaaaGreatDoorCards
import Derived.Test.YtpcmdecphigjaaaGreatDoorTie
import Derived.LaidLaws
import Derived.LaidHandle
import Derived.Deep.DeepHandedRow
import Derived.WalkKit
import Derived.LaidEql
import Derived.Stop.Asserts
import Derived.RowKitTokens
section
namespace Go.Vc
open Go.Proofs
noncomputable abbrev P : Program := Tryz.prog
def tab : List (Nat × TI) := [
  (3, ⟨(.int .i64), 1, 8, [.d (.int .i64 0)], [], false⟩),
  (9, ⟨.str, 1, 16, [.d (.str [])], [], false⟩),
  (119, ⟨(.slice 9), 1, 24, [.nils], [], false⟩),
  (145, ⟨(.struct [(0, 9), (1, 9), (2, 9), (3, 119), (4, 4), (5, 119), (6, 3)]), 7, 112, [.d (.str []), .d (.str []), .d (.str []), .nils, .d (.bool false), .nils, .d (.int .i64 0)], [("loop.example/wharfhall/impl.spot", 250), ("loop.example/wharfhall/impl.twin", 167)], false⟩),
  (168, ⟨(.struct [(0, 9), (1, 3), (2, 9), (3, 9), (4, 9), (5, 119), (6, 119), (7, 3), (8, 9), (9, 9), (10, 103), (14, 3)]), 15, 240, [.d (.str []), .d (.int .i64 0), .d (.str []), .d (.str []), .d (.str []), .nils, .nils, .d (.int .i64 0), .d (.str []), .d (.str []), .nils, .d (.str []), .d (.str []), .d (.str []), .d (.int .i64 0)], [("loop.example/wharfhall/impl.twin", 251)], false⟩),
  (4, ⟨.bool, 1, 1, [.d (.bool false)], [], false⟩),
  (191, ⟨(.struct [(0, 9), (1, 3), (2, 3), (3, 3), (4, 119), (5, 9), (6, 3), (7, 4), (8, 4), (9, 9), (10, 9)]), 11, 128, [.d (.str []), .d (.int .i64 0), .d (.int .i64 0), .d (.int .i64 0), .nils, .d (.str []), .d (.int .i64 0), .d (.bool false), .d (.bool false), .d (.str []), .d (.str [])], [], false⟩),
  (50, ⟨(.struct [(0, 3), (1, 3), (2, 3), (3, 45), (4, 46), (5, 47), (6, 48)]), 7, 120, [.d (.int .i64 0), .d (.int .i64 0), .d (.int .i64 0), .nils, .nils, .nils, .nils], [("loop.example/wharfhall/impl.find", 128), ("loop.example/wharfhall/impl.grantsOk", 78), ("loop.example/wharfhall/impl.ledger", 132), ("loop.example/wharfhall/impl.objectsOk", 77), ("loop.example/wharfhall/impl.rulesTo", 80), ("loop.example/wharfhall/impl.sumsOk", 79)], false⟩),
  (43, ⟨(.struct [(0, 39), (1, 40), (2, 41)]), 3, 72, [.nils, .nils, .nils], [], false⟩),
  (103, ⟨(.struct [(0, 101), (1, 9), (2, 9), (3, 9)]), 4, 72, [.nils, .d (.str []), .d (.str []), .d (.str [])], [("loop.example/wharfhall/impl.ok", 129), ("loop.example/wharfhall/impl.reaches", 133), ("loop.example/wharfhall/impl.wider", 145)], false⟩),
  (141, ⟨(.struct [(0, 9), (1, 9), (2, 9), (3, 9), (4, 9), (5, 9)]), 6, 96, [.d (.str []), .d (.str []), .d (.str []), .d (.str []), .d (.str []), .d (.str [])], [], false⟩),
  (137, ⟨(.slice 191), 1, 24, [.nils], [], false⟩),
  (39, ⟨(.slice 139), 1, 24, [.nils], [], false⟩),
  (150, ⟨(.struct [(0, 9), (1, 9), (2, 9), (3, 3), (4, 3)]), 5, 64, [.d (.str []), .d (.str []), .d (.str []), .d (.int .i64 0), .d (.int .i64 0)], [], false⟩),
  (148, ⟨(.struct [(0, 9), (1, 9), (2, 3), (3, 3)]), 4, 48, [.d (.str []), .d (.str []), .d (.int .i64 0), .d (.int .i64 0)], [], false⟩),
  (41, ⟨(.slice 143), 1, 24, [.nils], [], false⟩),
  (139, ⟨(.struct [(0, 9), (1, 137)]), 2, 40, [.d (.str []), .nils], [], false⟩),
  (101, ⟨(.slice 3), 1, 24, [.nils], [], false⟩),
  (105, ⟨(.struct [(0, 3), (1, 9), (2, 9), (3, 103)]), 7, 112, [.d (.int .i64 0), .d (.str []), .d (.str []), .nils, .d (.str []), .d (.str []), .d (.str [])], [("loop.example/wharfhall/impl.twin", 249)], false⟩),
  (64, ⟨(.struct [(0, 50), (7, 62)]), 8, 144, [.d (.int .i64 0), .d (.int .i64 0), .d (.int .i64 0), .nils, .nils, .nils, .nils, .nils], [("loop.example/wharfhall/impl.twin", 247)], false⟩),
  (96, ⟨(.struct [(0, 9), (1, 4), (2, 50), (9, 94)]), 10, 168, [.d (.str []), .d (.bool false), .d (.int .i64 0), .d (.int .i64 0), .d (.int .i64 0), .nils, .nils, .nils, .nils, .nils], [("loop.example/wharfhall/impl.twin", 248)], false⟩),
  (46, ⟨(.slice 105), 1, 24, [.nils], [], false⟩),
  (143, ⟨(.struct [(0, 9), (1, 9)]), 2, 32, [.d (.str []), .d (.str [])], [], false⟩),
  (45, ⟨(.slice 145), 1, 24, [.nils], [], false⟩),
  (171, ⟨(.struct [(0, 9), (1, 168), (16, 3), (17, 169)]), 18, 288, [.d (.str []), .d (.str []), .d (.int .i64 0), .d (.str []), .d (.str []), .d (.str []), .nils, .nils, .d (.int .i64 0), .d (.str []), .d (.str []), .nils, .d (.str []), .d (.str []), .d (.str []), .d (.int .i64 0), .d (.int .i64 0), .nils], [("loop.example/wharfhall/impl.twin", 252)], false⟩),
  (40, ⟨(.slice 141), 1, 24, [.nils], [], false⟩),
  (47, ⟨(.slice 148), 1, 24, [.nils], [], false⟩),
  (32, ⟨(.struct [(0, 3), (1, 3), (2, 3), (3, 27), (4, 28), (5, 29), (6, 30)]), 7, 120, [.d (.int .i64 0), .d (.int .i64 0), .d (.int .i64 0), .nils, .nils, .nils, .nils], [], false⟩),
  (26, ⟨(.struct [(0, 22), (1, 23), (2, 24)]), 3, 72, [.nils, .nils, .nils], [], false⟩),
  (48, ⟨(.slice 150), 1, 24, [.nils], [], false⟩),
  (52, ⟨(.struct [(0, 3), (1, 9), (2, 9), (3, 9)]), 4, 56, [.d (.int .i64 0), .d (.str []), .d (.str []), .d (.str [])], [], false⟩),
  (62, ⟨(.slice 96), 1, 24, [.nils], [], false⟩),
  (94, ⟨(.slice 171), 1, 24, [.nils], [], false⟩),
  (214, ⟨(.struct [(0, 9), (1, 9), (2, 3)]), 3, 40, [.d (.str []), .d (.str []), .d (.int .i64 0)], [], false⟩),
  (100, ⟨(.slice 103), 1, 24, [.nils], [], false⟩),
  (169, ⟨(.slice 214), 1, 24, [.nils], [], false⟩),
  (250, ⟨(.struct [(0, 9), (1, 3), (2, 9), (3, 9), (4, 9), (5, 119), (6, 119), (7, 3), (8, 9), (9, 9), (10, 123), (14, 3)]), 15, 240, [.d (.str []), .d (.int .i64 0), .d (.str []), .d (.str []), .d (.str []), .nils, .nils, .d (.int .i64 0), .d (.str []), .d (.str []), .nils, .d (.str []), .d (.str []), .d (.str []), .d (.int .i64 0)], [], false⟩),
  (5, ⟨(.int .u8), 1, 1, [.d (.int .u8 0)], [], false⟩),
  (59, ⟨(.struct [(0, 32), (7, 57)]), 8, 144, [.d (.int .i64 0), .d (.int .i64 0), .d (.int .i64 0), .nils, .nils, .nils, .nils, .nils], [], false⟩),
  (220, ⟨(.struct [(0, 9), (1, 3), (2, 3), (3, 3), (4, 119), (5, 9), (6, 3), (7, 4), (8, 4), (9, 9), (10, 9)]), 11, 128, [.d (.str []), .d (.int .i64 0), .d (.int .i64 0), .d (.int .i64 0), .nils, .d (.str []), .d (.int .i64 0), .d (.bool false), .d (.bool false), .d (.str []), .d (.str [])], [], false⟩),
  (114, ⟨(.struct [(0, 9), (1, 9), (2, 9), (3, 9), (4, 9), (5, 9)]), 6, 96, [.d (.str []), .d (.str []), .d (.str []), .d (.str []), .d (.str []), .d (.str [])], [], false⟩),
  (121, ⟨(.struct [(0, 9), (1, 9), (2, 9), (3, 119), (4, 4), (5, 119), (6, 3)]), 7, 112, [.d (.str []), .d (.str []), .d (.str []), .nils, .d (.bool false), .nils, .d (.int .i64 0)], [], false⟩),
  (123, ⟨(.struct [(0, 101), (1, 9), (2, 9), (3, 9)]), 4, 72, [.nils, .d (.str []), .d (.str []), .d (.str [])], [], false⟩),
  (34, ⟨(.struct [(0, 3), (1, 9), (2, 9), (3, 9)]), 4, 56, [.d (.int .i64 0), .d (.str []), .d (.str []), .d (.str [])], [], false⟩),
  (318, ⟨(.struct [(0, 191)]), 11, 128, [.d (.str []), .d (.int .i64 0), .d (.int .i64 0), .d (.int .i64 0), .nils, .d (.str []), .d (.int .i64 0), .d (.bool false), .d (.bool false), .d (.str []), .d (.str [])], [("loop.example/wharfhall/impl.clean", 277), ("loop.example/wharfhall/impl.fits", 278), ("loop.example/wharfhall/impl.sound", 279)], false⟩),
  (321, ⟨(.struct [(0, 191)]), 11, 128, [.d (.str []), .d (.int .i64 0), .d (.int .i64 0), .d (.int .i64 0), .nils, .d (.str []), .d (.int .i64 0), .d (.bool false), .d (.bool false), .d (.str []), .d (.str [])], [("loop.example/wharfhall/impl.clean", 283), ("loop.example/wharfhall/impl.fits", 284), ("loop.example/wharfhall/impl.sound", 285)], false⟩),
  (322, ⟨(.struct [(0, 191)]), 11, 128, [.d (.str []), .d (.int .i64 0), .d (.int .i64 0), .d (.int .i64 0), .nils, .d (.str []), .d (.int .i64 0), .d (.bool false), .d (.bool false), .d (.str []), .d (.str [])], [("loop.example/wharfhall/impl.clean", 286), ("loop.example/wharfhall/impl.fits", 287), ("loop.example/wharfhall/impl.sound", 288)], false⟩),
  (131, ⟨(.struct [(0, 9), (1, 9), (2, 9), (3, 3), (4, 3)]), 5, 64, [.d (.str []), .d (.str []), .d (.str []), .d (.int .i64 0), .d (.int .i64 0)], [], false⟩),
  (320, ⟨(.struct [(0, 191)]), 11, 128, [.d (.str []), .d (.int .i64 0), .d (.int .i64 0), .d (.int .i64 0), .nils, .d (.str []), .d (.int .i64 0), .d (.bool false), .d (.bool false), .d (.str []), .d (.str [])], [("loop.example/wharfhall/impl.clean", 280), ("loop.example/wharfhall/impl.fits", 281), ("loop.example/wharfhall/impl.sound", 282)], false⟩),
  (125, ⟨(.struct [(0, 3), (1, 9), (2, 9), (3, 123)]), 7, 112, [.d (.int .i64 0), .d (.str []), .d (.str []), .nils, .d (.str []), .d (.str []), .d (.str [])], [], false⟩),
  (164, ⟨(.struct [(0, 9), (1, 4), (2, 32), (9, 162)]), 10, 168, [.d (.str []), .d (.bool false), .d (.int .i64 0), .d (.int .i64 0), .d (.int .i64 0), .nils, .nils, .nils, .nils, .nils], [], false⟩),
  (253, ⟨(.struct [(0, 9), (1, 250), (16, 3), (17, 251)]), 18, 288, [.d (.str []), .d (.str []), .d (.int .i64 0), .d (.str []), .d (.str []), .d (.str []), .nils, .nils, .d (.int .i64 0), .d (.str []), .d (.str []), .nils, .d (.str []), .d (.str []), .d (.str []), .d (.int .i64 0), .d (.int .i64 0), .nils], [], false⟩),
  (296, ⟨(.map 9 3), 1, 8, [.val (.map none)], [], false⟩),
  (128, ⟨(.struct [(0, 9), (1, 9), (2, 3), (3, 3)]), 4, 48, [.d (.str []), .d (.str []), .d (.int .i64 0), .d (.int .i64 0)], [], false⟩),
  (314, ⟨(.struct [(0, 9), (1, 9), (2, 3)]), 3, 40, [.d (.str []), .d (.str []), .d (.int .i64 0)], [], false⟩),
  (22, ⟨(.slice 111), 1, 24, [.nils], [], false⟩),
  (23, ⟨(.slice 114), 1, 24, [.nils], [], false⟩),
  (24, ⟨(.slice 117), 1, 24, [.nils], [], false⟩),
  (27, ⟨(.slice 121), 1, 24, [.nils], [], false⟩),
  (28, ⟨(.slice 125), 1, 24, [.nils], [], false⟩),
  (29, ⟨(.slice 128), 1, 24, [.nils], [], false⟩),
  (30, ⟨(.slice 131), 1, 24, [.nils], [], false⟩),
  (57, ⟨(.slice 164), 1, 24, [.nils], [], false⟩),
  (109, ⟨(.slice 220), 1, 24, [.nils], [], false⟩),
  (111, ⟨(.struct [(0, 9), (1, 109)]), 2, 40, [.d (.str []), .nils], [], false⟩),
  (117, ⟨(.struct [(0, 9), (1, 9)]), 2, 32, [.d (.str []), .d (.str [])], [], false⟩),
  (162, ⟨(.slice 253), 1, 24, [.nils], [], false⟩),
  (251, ⟨(.slice 314), 1, 24, [.nils], [], false⟩),
  (275, ⟨(.struct [(0, 3), (1, 3)]), 2, 16, [.d (.int .i64 0), .d (.int .i64 0)], [], false⟩),
  (243, ⟨(.int .u16), 1, 2, [.d (.int .u16 0)], [("loop.example/wharfhall/impl.has", 175)], false⟩),
  (204, ⟨(.map 206 3), 1, 8, [.val (.map none)], [], false⟩),
  (273, ⟨.ptr, 1, 8, [.val (.pointer none)], [], false⟩),
  (323, ⟨(.map 3 319), 1, 8, [.val (.map none)], [], false⟩),
  (165, ⟨.func, 1, 8, [.val .nilFunc], [], false⟩),
  (259, ⟨(.array 7 258), 7, 112, [.val .nilIface, .val .nilIface, .val .nilIface, .val .nilIface, .val .nilIface, .val .nilIface, .val .nilIface], [], false⟩),
  (287, ⟨(.struct []), 0, 0, [], [("loop.example/wharfhall/impl.do", 254), ("loop.example/wharfhall/impl.form", 255), ("loop.example/wharfhall/impl.only", 256)], false⟩),
  (288, ⟨(.struct []), 0, 0, [], [("loop.example/wharfhall/impl.do", 259), ("loop.example/wharfhall/impl.form", 260), ("loop.example/wharfhall/impl.only", 261)], false⟩),
  (289, ⟨(.struct []), 0, 0, [], [("loop.example/wharfhall/impl.do", 262), ("loop.example/wharfhall/impl.form", 263), ("loop.example/wharfhall/impl.only", 264)], false⟩),
  (290, ⟨(.struct []), 0, 0, [], [("loop.example/wharfhall/impl.do", 265), ("loop.example/wharfhall/impl.form", 266), ("loop.example/wharfhall/impl.only", 267)], false⟩),
  (291, ⟨(.struct []), 0, 0, [], [("loop.example/wharfhall/impl.do", 268), ("loop.example/wharfhall/impl.form", 269), ("loop.example/wharfhall/impl.only", 270)], false⟩),
  (292, ⟨(.struct []), 0, 0, [], [("loop.example/wharfhall/impl.do", 271), ("loop.example/wharfhall/impl.form", 272), ("loop.example/wharfhall/impl.only", 273)], false⟩),
  (206, ⟨(.struct [(0, 9), (1, 9)]), 2, 32, [.d (.str []), .d (.str [])], [], true⟩),
  (236, ⟨(.slice 235), 1, 24, [.nils], [], false⟩),
  (238, ⟨.iface, 1, 16, [.val .nilIface], [], false⟩),
  (272, ⟨.func, 1, 8, [.val .nilFunc], [], false⟩),
  (281, ⟨(.int .u64), 1, 8, [.d (.int .u64 0)], [], false⟩),
  (379, ⟨(.struct [(0, 377)]), 3, 24, [.d (.int .i64 0), .d (.int .i64 0), .d (.int .i64 0)], [], false⟩),
  (20, ⟨.iface, 1, 16, [.val .nilIface], [], false⟩),
  (235, ⟨.func, 1, 8, [.val .nilFunc], [], false⟩),
  (258, ⟨.iface, 1, 16, [.val .nilIface], [], false⟩),
  (277, ⟨.ptr, 1, 8, [.val (.pointer none)], [], false⟩),
  (319, ⟨.func, 1, 8, [.val .nilFunc], [], false⟩),
  (374, ⟨(.struct [(0, 43), (3, 50), (10, 9), (11, 168), (26, 4), (27, 3), (28, 372)]), 29, 472, [.nils, .nils, .nils, .d (.int .i64 0), .d (.int .i64 0), .d (.int .i64 0), .nils, .nils, .nils, .nils, .d (.str []), .d (.str []), .d (.int .i64 0), .d (.str []), .d (.str []), .d (.str []), .nils, .nils, .d (.int .i64 0), .d (.str []), .d (.str []), .nils, .d (.str []), .d (.str []), .d (.str []), .d (.int .i64 0), .d (.bool false), .d (.int .i64 0), .val .nilFunc], [], false⟩),
  (377, ⟨(.struct [(0, 3), (1, 3), (2, 3)]), 3, 24, [.d (.int .i64 0), .d (.int .i64 0), .d (.int .i64 0)], [], false⟩)]
theorem vcT : tabB P tab = true := by kernel_rfl
theorem vcM : P.follows .mixedOrders = true := Tryz.checked.mixed
end Go.Vc
end

section
namespace Go.Vc
def eB (s : Bs) : List D := [.str s]
def eN (n : Int) : List D := [.int .i64 n]
def lS (l : List Bs) : D := .list (l.map eB)
def lI (l : List Int) : D := .list (l.map eN)
structure GateField where
  name : Bs
  kind : Int
  least : Int
  most : Int
  words : List Bs
  to_ : Bs
  role : Int
  must : Bool
  fixed : Bool
  default_ : Bs
  weighs : Bs
def GateField.e (x : GateField) : List D := [.str x.name, .int .i64 x.kind, .int .i64 x.least, .int .i64 x.most, lS x.words, .str x.to_, .int .i64 x.role, .bool x.must, .bool x.fixed, .str x.default_, .str x.weighs]
def lGateField (l : List GateField) : D := .list (l.map GateField.e)
structure GateShape where
  kind : Bs
  fields : List GateField
def GateShape.e (x : GateShape) : List D := [.str x.kind, lGateField x.fields]
def lGateShape (l : List GateShape) : D := .list (l.map GateShape.e)
structure GateMend where
  kind : Bs
  field : Bs
  when_ : Bs
  is_ : Bs
  put : Bs
  from_ : Bs
def GateMend.e (x : GateMend) : List D := [.str x.kind, .str x.field, .str x.when_, .str x.is_, .str x.put, .str x.from_]
def lGateMend (l : List GateMend) : D := .list (l.map GateMend.e)
structure GateTeam where
  name : Bs
  over : Bs
def GateTeam.e (x : GateTeam) : List D := [.str x.name, .str x.over]
def lGateTeam (l : List GateTeam) : D := .list (l.map GateTeam.e)
structure GateLaw where
  shapes : List GateShape
  mends : List GateMend
  teams : List GateTeam
def GateLaw.e (x : GateLaw) : List D := [lGateShape x.shapes, lGateMend x.mends, lGateTeam x.teams]
def lGateLaw (l : List GateLaw) : D := .list (l.map GateLaw.e)
structure GateObject where
  kind : Bs
  name : Bs
  team : Bs
  values : List Bs
  ending : Bool
  holds : List Bs
  version : Int
def GateObject.e (x : GateObject) : List D := [.str x.kind, .str x.name, .str x.team, lS x.values, .bool x.ending, lS x.holds, .int .i64 x.version]
def lGateObject (l : List GateObject) : D := .list (l.map GateObject.e)
structure GateRule where
  verbs : List Int
  kind : Bs
  team : Bs
  prefix_ : Bs
def GateRule.e (x : GateRule) : List D := [lI x.verbs, .str x.kind, .str x.team, .str x.prefix_]
def lGateRule (l : List GateRule) : D := .list (l.map GateRule.e)
structure GateGrant where
  number : Int
  to_ : Bs
  by_ : Bs
  rule : GateRule
def GateGrant.e (x : GateGrant) : List D := [.int .i64 x.number, .str x.to_, .str x.by_, lI x.rule.verbs, .str x.rule.kind, .str x.rule.team, .str x.rule.prefix_]
def lGateGrant (l : List GateGrant) : D := .list (l.map GateGrant.e)
structure GateLedger where
  team : Bs
  resource : Bs
  most : Int
  free : Int
def GateLedger.e (x : GateLedger) : List D := [.str x.team, .str x.resource, .int .i64 x.most, .int .i64 x.free]
def lGateLedger (l : List GateLedger) : D := .list (l.map GateLedger.e)
structure GatePurse where
  door : Bs
  team : Bs
  resource : Bs
  amount : Int
  until_ : Int
def GatePurse.e (x : GatePurse) : List D := [.str x.door, .str x.team, .str x.resource, .int .i64 x.amount, .int .i64 x.until_]
def lGatePurse (l : List GatePurse) : D := .list (l.map GatePurse.e)
structure GateBook where
  now : Int
  tick : Int
  given : Int
  objects : List GateObject
  grants : List GateGrant
  ledgers : List GateLedger
  purses : List GatePurse
def GateBook.e (x : GateBook) : List D := [.int .i64 x.now, .int .i64 x.tick, .int .i64 x.given, lGateObject x.objects, lGateGrant x.grants, lGateLedger x.ledgers, lGatePurse x.purses]
def lGateBook (l : List GateBook) : D := .list (l.map GateBook.e)
structure GateAsk where
  who : Bs
  verb : Int
  kind : Bs
  name : Bs
  team : Bs
  values : List Bs
  holds : List Bs
  seen : Int
  hold : Bs
  to_ : Bs
  rule : GateRule
  number : Int
def GateAsk.e (x : GateAsk) : List D := [.str x.who, .int .i64 x.verb, .str x.kind, .str x.name, .str x.team, lS x.values, lS x.holds, .int .i64 x.seen, .str x.hold, .str x.to_, lI x.rule.verbs, .str x.rule.kind, .str x.rule.team, .str x.rule.prefix_, .int .i64 x.number]
def lGateAsk (l : List GateAsk) : D := .list (l.map GateAsk.e)
structure GateWant where
  kind : Bs
  name : Bs
  version : Int
def GateWant.e (x : GateWant) : List D := [.str x.kind, .str x.name, .int .i64 x.version]
def lGateWant (l : List GateWant) : D := .list (l.map GateWant.e)
structure GateSlip where
  door : Bs
  ask : GateAsk
  given : Int
  wants : List GateWant
def GateSlip.e (x : GateSlip) : List D := [.str x.door, .str x.ask.who, .int .i64 x.ask.verb, .str x.ask.kind, .str x.ask.name, .str x.ask.team, lS x.ask.values, lS x.ask.holds, .int .i64 x.ask.seen, .str x.ask.hold, .str x.ask.to_, lI x.ask.rule.verbs, .str x.ask.rule.kind, .str x.ask.rule.team, .str x.ask.rule.prefix_, .int .i64 x.ask.number, .int .i64 x.given, lGateWant x.wants]
def lGateSlip (l : List GateSlip) : D := .list (l.map GateSlip.e)
structure GateDoor where
  name : Bs
  up : Bool
  view : GateBook
  slips : List GateSlip
def GateDoor.e (x : GateDoor) : List D := [.str x.name, .bool x.up, .int .i64 x.view.now, .int .i64 x.view.tick, .int .i64 x.view.given, lGateObject x.view.objects, lGateGrant x.view.grants, lGateLedger x.view.ledgers, lGatePurse x.view.purses, lGateSlip x.slips]
def lGateDoor (l : List GateDoor) : D := .list (l.map GateDoor.e)
structure GateWorld where
  book : GateBook
  doors : List GateDoor
def GateWorld.e (x : GateWorld) : List D := [.int .i64 x.book.now, .int .i64 x.book.tick, .int .i64 x.book.given, lGateObject x.book.objects, lGateGrant x.book.grants, lGateLedger x.book.ledgers, lGatePurse x.book.purses, lGateDoor x.doors]
def lGateWorld (l : List GateWorld) : D := .list (l.map GateWorld.e)
structure GateAct where
  verb : Int
  kind : Bs
  team : Bs
  name : Bs
def GateAct.e (x : GateAct) : List D := [.int .i64 x.verb, .str x.kind, .str x.team, .str x.name]
def lGateAct (l : List GateAct) : D := .list (l.map GateAct.e)
/-- a struct as a value -/
def st (ds : List D) : AV := .agg (ds.map .d)
end Go.Vc
end

section
namespace Go.Vc
/-! ### indexing -/
theorem ix_at {α : Type} {e : α → List D} {xs : List α} {k sz : Nat} {K : List D → Prop} (hk : k < xs.length) (hs : (e xs[k]).length = sz) (h : K (e xs[k])) :
    (0 : Int) ≤ (k : Int) ∧ ∃ b, (xs.map e)[(k : Int).toNat]? = some b ∧ b.length = sz ∧ K b :=
  ⟨Int.natCast_nonneg k, e xs[k], by simp [hk], hs, h⟩
theorem getMap {α : Type} {e : α → List D} {xs : List α} {k : Nat} (hk : k < xs.length) : (xs.map e)[(k : Int).toNat]? = some (e xs[k]) := by simp [hk]
theorem ix_str {s : Bs} {k : Nat} {K : UInt8 → Prop} (hk : k < s.length) (h : K s[k]) : (0 : Int) ≤ (k : Int) ∧ ∃ b, s[(k : Int).toNat]? = some b ∧ K b :=
  ⟨Int.natCast_nonneg k, s[k], by simp [hk], h⟩
theorem ix_atw {α : Type} {e : α → List D} {xs : List α} {k sz : Nat} {j : Int} {K : List D → Prop} (hk : k < xs.length) (hj : j = (k : Int)) (hs : (e xs[k]).length = sz) (h : K (e xs[k])) :
    (0 : Int) ≤ j ∧ ∃ b, (xs.map e)[j.toNat]? = some b ∧ b.length = sz ∧ K b := by subst hj; exact ix_at hk hs h
theorem ix_str0 {s : Bs} {K : UInt8 → Prop} (hk : 0 < s.length) (h : K s[0]) : (0 : Int) ≤ 0 ∧ ∃ b, s[(0 : Int).toNat]? = some b ∧ K b :=
  ⟨Int.le_refl 0, s[0], by simp [hk], h⟩
theorem wrap_pred {k n : Nat} (h0 : 0 < k) (h : k < n) (hn : n ≤ big) : IntKind.i64.wrap ((k : Int) - 1) = ((k - 1 : Nat) : Int) := by
  unfold big at hn
  rw [IntKind.wrap_i64]
  omega
theorem wrap_succ {k n : Nat} (h : k < n) (hn : n ≤ big) : IntKind.i64.wrap ((k : Int) + 1) = ((k + 1 : Nat) : Int) := by
  unfold big at hn
  rw [IntKind.wrap_i64]
  omega
theorem bd {a b : Bool} (h : a = b) : AV.d (.bool a) = AV.d (.bool b) := by rw [h]
theorem nd {a b : Int} (h : a = b) : AV.d (.int .i64 a) = AV.d (.int .i64 b) := by rw [h]
theorem sd {a b : Bs} (h : a = b) : AV.d (.str a) = AV.d (.str b) := by rw [h]
theorem ld {a b : List (List D)} (h : a = b) : AV.d (.list a) = AV.d (.list b) := by rw [h]
theorem lt_of_dec {a b : Int} (h : decide (a < b) = true) : a < b := of_decide_eq_true h
theorem lt_map {α : Type} {e : α → List D} {xs : List α} {i : Nat} (h : decide ((i : Int) < ((xs.map e).length : Int)) = true) : i < xs.length := by
  have := of_decide_eq_true h
  rw [List.length_map] at this
  omega
theorem ge_map {α : Type} {e : α → List D} {xs : List α} {i : Nat} (h : decide ((i : Int) < ((xs.map e).length : Int)) = false) : xs.length ≤ i := by
  have := of_decide_eq_false h
  rw [List.length_map] at this
  omega
theorem lt_str {s : Bs} {i : Nat} (h : decide ((i : Int) < (s.length : Int)) = true) : i < s.length := by
  have := of_decide_eq_true h
  omega
theorem ge_str {s : Bs} {i : Nat} (h : decide ((i : Int) < (s.length : Int)) = false) : s.length ≤ i := by
  have := of_decide_eq_false h
  omega
theorem len_map {α : Type} {e : α → List D} {xs : List α} (h : (xs.map e).length ≤ big) : xs.length ≤ big := by rwa [List.length_map] at h

theorem mk_ok {α : Type} {e : α → List D} {xs : List α} (h : xs.length ≤ big) : (((xs.map e).length : Nat) : Int) ≤ (big : Int) := by rw [List.length_map]; omega

/-! ### sizes -/
def szB (a : Int) (k : Int → Int) : Int := bif decide (a < 0) then -1 else k a
def szL {α : Type} (m : α → Int → Int) : List α → Int → Int
  | [], n => n
  | x :: xs, n => szB (m x n) (szL m xs)
theorem szL_step {α : Type} {m : α → Int → Int} {xs : List α} {i : Nat} {v : Int} (h : i < xs.length) : szL m (xs.drop i) v = szB (m xs[i] v) (szL m (xs.drop (i + 1))) := by
  rw [List.drop_eq_getElem_cons h]; rfl

/-! ### a row filled from its begin on -/
def rowsAt {α : Type} (e : α → List D) (xs : List α) (z : List D) (i : Nat) : List (List D) := (xs.take i).map e ++ List.replicate (xs.length - i) z
section
variable {α : Type} {e : α → List D} {xs : List α} {z : List D} {i : Nat}
theorem rowsAt_len (hi : i ≤ xs.length) : (rowsAt e xs z i).length = xs.length := by
  simp only [rowsAt, List.length_append, List.length_map, List.length_take, List.length_replicate]; omega
theorem rowsAt_start {t n : Nat} : some (AO.row t n (List.replicate ((((xs.map e).length : Nat) : Int)).toNat z)) = some (AO.row t n (rowsAt e xs z 0)) := by
  simp [rowsAt]
theorem rowsAt_get (hi : i < xs.length) : (rowsAt e xs z i)[i]? = some z := by
  unfold rowsAt
  rw [List.getElem?_append_right (by simp [Nat.min_le_left]), List.getElem?_replicate, if_pos (by simp; omega)]
theorem rowsAt_set {t n : Nat} (hi : i < xs.length) (hz : (e xs[i]).length = z.length) :
    some (AO.row t n ((rowsAt e xs z i).set i (overD z 0 (e xs[i])))) = some (AO.row t n (rowsAt e xs z (i + 1))) := by
  congr 2
  unfold rowsAt overD
  simp only [List.take_zero, List.nil_append, Nat.zero_add]
  rw [hz, List.drop_length, List.append_nil, List.set_append_right _ _ (by simp [Nat.min_le_left]), List.length_map, List.length_take, Nat.min_eq_left (by omega), Nat.sub_self]
  rw [show xs.length - i = (xs.length - (i + 1)) + 1 from by omega, List.replicate_succ, List.set_cons_zero]
  rw [List.take_succ_eq_append_getElem hi, List.map_append]
  simp
theorem rowsAt_end (h : xs.length ≤ i) (hi : i ≤ xs.length) : rowsAt e xs z i = xs.map e := by
  unfold rowsAt
  rw [List.take_of_length_le h, show xs.length - i = 0 from by omega]
  simp
end
theorem all_step {α : Type} {p : α → Bool} {s : List α} {i : Nat} (h : i < s.length) : (s.drop i).all p = (p s[i] && (s.drop (i + 1)).all p) := by
  rw [List.drop_eq_getElem_cons h, List.all_cons]
theorem all_end {α : Type} {p : α → Bool} {s : List α} {i : Nat} (h : s.length ≤ i) : (s.drop i).all p = true := by
  rw [List.drop_of_length_le h]; rfl
theorem any_step {α : Type} {p : α → Bool} {s : List α} {i : Nat} (h : i < s.length) : (s.drop i).any p = (p s[i] || (s.drop (i + 1)).any p) := by
  rw [List.drop_eq_getElem_cons h, List.any_cons]
theorem any_end {α : Type} {p : α → Bool} {s : List α} {i : Nat} (h : s.length ≤ i) : (s.drop i).any p = false := by
  rw [List.drop_of_length_le h]; rfl
end Go.Vc
end

section
namespace Go.Vc
open Go.Proofs Go.Proofs.YtpcmdecphigjaaaGreatDoor
set_option linter.unusedSimpArgs false
set_option linter.unusedVariables false
/-- rows of cells, one behind the other -/
def ShapeFs (S : TypeId → List D → Prop) : List TypeId → List D → Prop
  | [], ds => ds = []
  | t :: ts, ds => ∃ a b, ds = a ++ b ∧ S t a ∧ ShapeFs S ts b
/-- data of a type -/
def Shape (P : Program) : Nat → TypeId → List D → Prop
  | 0, _, _ => False
  | n + 1, t, ds => match P.underlying t with
    | some .bool => ∃ b, ds = [.bool b]
    | some (.int k) => ∃ i, ds = [.int k i]
    | some .string => ∃ s, ds = [.str s]
    | some (.slice e) => ∃ rows, ds = [.list rows] ∧ ∀ r ∈ rows, Shape P n e r
    | some (.struct fs) => ShapeFs (Shape P n) (fs.toList.map (·.type)) ds
    | _ => False
def fieldTs (P : Program) (t : TypeId) : Option (List TypeId) := match P.underlying t with
  | some (.struct fs) => some (fs.toList.map (·.type))
  | _ => none
theorem shape_fields {P : Program} {n : Nat} {t : TypeId} {ts : List TypeId} {ds : List D} (hf : fieldTs P t = some ts) (h : Shape P (n + 1) t ds) : ShapeFs (Shape P n) ts ds := by
  unfold fieldTs at hf
  unfold Shape at h
  split at hf
  · rename_i fs hu
    rw [hu] at h
    rw [← Option.some.inj hf]
    exact h
  · cases hf
/-- the fields lie one behind the other -/
def tiles (P : Program) : Nat → List Field → Option Nat
  | o, [] => some o
  | o, f :: fs => bif Nat.beq f.offset o then tiles P (o + P.cellsOf f.type) fs else none
def plainT (P : Program) : Nat → TypeId → Bool
  | 0, _ => false
  | n + 1, t => match P.underlying t with
    | some .bool => true
    | some (.int _) => true
    | some .string => true
    | some (.slice e) => plainT P n e
    | some (.struct fs) => (tiles P 0 fs.toList == some (P.cellsOf t)) && fs.toList.all fun f => plainT P n f.type
    | _ => false
theorem mapM_get {α β : Type} {f : α → Option β} : ∀ {l : List α} {xs : List β}, l.mapM f = some xs → xs.length = l.length ∧ ∀ (i : Nat) (h : i < l.length) (h' : i < xs.length), f l[i] = some xs[i]
  | [], xs, h => by
    rw [List.mapM_nil] at h
    obtain rfl : [] = xs := Option.some.inj h
    exact ⟨rfl, fun i h => by simp at h⟩
  | a :: l, xs, h => by
    rw [List.mapM_cons] at h
    cases ha : f a with
    | none => rw [ha] at h; cases h
    | some b =>
      rw [ha] at h
      cases hl : l.mapM f with
      | none => rw [hl] at h; cases h
      | some ys =>
        rw [hl] at h
        obtain rfl : b :: ys = xs := Option.some.inj h
        obtain ⟨h1, h2⟩ := mapM_get hl
        refine ⟨by simp [h1], fun i h h' => ?_⟩
        cases i with
        | zero => exact ha
        | succ i => exact h2 i (by simpa using h) (by simpa using h')
theorem bulk_pos {H : Type} (d : DataW H) : 1 ≤ Rows.uptoBulk d := by
  cases d with
  | lit l => cases l <;> simp [Rows.uptoBulk]
  | _ => simp [Rows.uptoBulk]
theorem bulk_mem {H : Type} {d : DataW H} : ∀ {l : List (DataW H)}, d ∈ l → Rows.uptoBulk d ≤ Rows.uptoBulkAll l
  | x :: r, h => by
    simp only [Rows.uptoBulkAll]
    rcases List.mem_cons.1 h with e | e
    · subst e; omega
    · have := bulk_mem e; omega
theorem bulk_len {H : Type} : ∀ {l : List (DataW H)}, l.length ≤ Rows.uptoBulkAll l
  | [] => Nat.zero_le _
  | x :: r => by
    have := bulk_len (l := r)
    have := bulk_pos x
    simp only [Rows.uptoBulkAll, List.length_cons]; omega
/-- the cells of a row are read one by one -/
theorem cells_at {w : World} {base n : Nat} {a : Addr} {cs : List Value} (h : w.cells? base a n = some cs) : cs.length = n ∧ ∀ (i : Nat) v, cs[i]? = some v → w.cell? (a.add i) = some v := by
  unfold World.cells? at h
  split at h
  · obtain ⟨h1, h2⟩ := mapM_get h
    rw [List.length_range] at h1
    refine ⟨h1, fun i v hv => ?_⟩
    obtain ⟨hi, e⟩ := List.getElem?_eq_some_iff.1 hv
    have := h2 i (by rw [List.length_range]; omega) hi
    rw [List.getElem_range, e] at this
    exact this
  · cases h
theorem spot_none {w : World} {a : Addr} {v : Value} (h : w.cell? a = some v) : a.spot = none := by
  unfold World.cell? at h
  split at h
  · cases hs : a.spot with
    | none => rfl
    | some s => rw [hs] at h; simp at h
  · cases h
theorem add_eq {a : Addr} (h : a.spot = none) (n : Nat) : a.add n = ⟨a.block, a.off + n, none⟩ := by
  unfold Addr.add
  split
  · subst n; cases a; simp_all
  · rfl
/-- rows that lie one behind the other -/
theorem rows_at {w : World} {b o sz : Nat} : ∀ {rows : List (List Value)} {k : Nat}, (∀ r ∈ rows, r.length = sz) → (∀ (i : Nat) (h : i < rows.length) (j : Nat) v, rows[i][j]? = some v → w.cell? ⟨b, o + ((k + i) * sz + j), none⟩ = some v) →
    ∀ (j : Nat) v, rows.flatten[j]? = some v → w.cell? ⟨b, o + (k * sz + j), none⟩ = some v
  | [], _, _, _, j, v, h => by simp at h
  | r :: rs, k, hl, hc, j, v, h => by
    rw [List.flatten_cons] at h
    have hr := hl r List.mem_cons_self
    by_cases hj : j < r.length
    · rw [List.getElem?_append_left hj] at h
      have := hc 0 (by simp) j v h
      rw [Nat.add_zero] at this
      exact this
    · rw [List.getElem?_append_right (by omega)] at h
      have := rows_at (k := k + 1) (fun r hr => hl r (List.mem_cons_of_mem _ hr)) (fun i h j v hv => by
        have := hc (i + 1) (by simpa using h) j v hv
        rw [show k + 1 + i = k + (i + 1) from by omega]; exact this) (j - r.length) v h
      rw [show o + (k * sz + j) = o + ((k + 1) * sz + (j - r.length)) from by rw [Nat.add_mul]; omega]
      exact this
section
variable {H : Type} {enc : TypeId × Value → H} {P : Program} {w : World} {base : Nat} {spare : Nat → Bool} {held : Bool}
theorem fields_rd {n fuel : Nat} {cs : List Value} (ih : ∀ {t : TypeId} {c : List Value} {d : DataW H} {ps : List MemPlace}, plainT P n t = true → DataW.trod enc P w base spare held fuel t c = some (d, ps) → Rows.uptoBulk d ≤ big → ∃ ds, Rd w (fun _ => False) ds c ∧ Shape P n t ds) :
    ∀ {fs : List Field} {o e : Nat} {xs : List (DataW H × List MemPlace)}, tiles P o fs = some e → (∀ f ∈ fs, plainT P n f.type = true) → o ≤ cs.length → e = cs.length →
      (fs.mapM fun f => DataW.trod enc P w base spare held fuel f.type ((cs.drop f.offset).take (P.cellsOf f.type))) = some xs → Rows.uptoBulkAll (xs.map (·.1)) ≤ big →
      ∃ ds, Rd w (fun _ => False) ds (cs.drop o) ∧ ShapeFs (Shape P n) (fs.map (·.type)) ds
  | [], o, e, xs, ht, _, _, he, _, _ => by
    simp only [tiles, Option.some.injEq] at ht
    refine ⟨[], ?_, rfl⟩
    rw [List.drop_of_length_le (by omega)]; exact .nil
  | f :: fs, o, e, xs, ht, hp, ho, he, hx, hb => by
    simp only [tiles] at ht
    cases hq : Nat.beq f.offset o with
    | false => rw [hq] at ht; cases ht
    | true =>
      rw [hq] at ht
      have hoff := Nat.eq_of_beq_eq_true hq
      subst hoff
      rw [List.mapM_cons] at hx
      cases h1 : DataW.trod enc P w base spare held fuel f.type ((cs.drop f.offset).take (P.cellsOf f.type)) with
      | none => rw [h1] at hx; cases hx
      | some x =>
        rw [h1] at hx
        cases h2 : (fs.mapM fun f => DataW.trod enc P w base spare held fuel f.type ((cs.drop f.offset).take (P.cellsOf f.type))) with
        | none => rw [h2] at hx; cases hx
        | some ys =>
          rw [h2] at hx
          obtain rfl : x :: ys = xs := Option.some.inj hx
          simp only [List.map_cons, Rows.uptoBulkAll] at hb
          obtain ⟨d1, r1, s1⟩ := ih (hp f List.mem_cons_self) h1 (by omega)
          have hmono : ∀ {fs : List Field} {o e : Nat}, tiles P o fs = some e → o ≤ e := by
            intro fs
            induction fs with
            | nil => intro o e h; simp only [tiles, Option.some.injEq] at h; omega
            | cons g gs ihg =>
              intro o e h
              simp only [tiles] at h
              cases hq : Nat.beq g.offset o with
              | false => rw [hq] at h; cases h
              | true => rw [hq] at h; have := ihg h; omega
          have hle := hmono ht
          obtain ⟨d2, r2, s2⟩ := fields_rd ih ht (fun g hg => hp g (List.mem_cons_of_mem _ hg)) (by omega) he h2 (by omega)
          refine ⟨d1 ++ d2, ?_, d1, d2, rfl, s1, s2⟩
          have := r1.append r2
          rw [Nat.add_comm, ← List.drop_drop, List.drop_drop, Nat.add_comm, ← List.drop_drop] at this
          rwa [List.take_append_drop] at this
theorem trod_bool {fuel : Nat} {t : TypeId} {c : List Value} {x : DataW H × List MemPlace} (hu : P.underlying t = some .bool) (h : DataW.trod enc P w base spare held (fuel + 1) t c = some x) : ∃ b, c = [.bool b] := by
  unfold DataW.trod at h
  rw [hu] at h
  split at h
  case h_1 => exact ⟨_, rfl⟩
  all_goals (first | (rename_i e; cases e; done) | (rename_i e _; cases e; done) | (rename_i e _ _; cases e; done) | (cases h; done) | simp_all)
theorem trod_int {fuel : Nat} {t : TypeId} {k : IntKind} {c : List Value} {x : DataW H × List MemPlace} (hu : P.underlying t = some (.int k)) (h : DataW.trod enc P w base spare held (fuel + 1) t c = some x) : ∃ i, c = [.int k i] := by
  unfold DataW.trod at h
  rw [hu] at h
  split at h
  case h_2 =>
    rename_i e
    cases e
    split at h
    · rename_i hk
      obtain ⟨rfl, _⟩ := hk
      exact ⟨_, rfl⟩
    · cases h
  all_goals (first | (rename_i e; cases e; done) | (rename_i e _; cases e; done) | (rename_i e _ _; cases e; done) | (cases h; done) | simp_all)
theorem trod_string {fuel : Nat} {t : TypeId} {c : List Value} {x : DataW H × List MemPlace} (hu : P.underlying t = some .string) (h : DataW.trod enc P w base spare held (fuel + 1) t c = some x) : ∃ s : ByteArray, c = [.string s] ∧ x.1 = .lit (.string s.data.toList) := by
  unfold DataW.trod at h
  rw [hu] at h
  split at h
  case h_4 =>
    split at h
    · have := Option.some.inj h
      subst this
      exact ⟨_, rfl, rfl⟩
    · cases h
  all_goals (first | (rename_i e; cases e; done) | (rename_i e _; cases e; done) | (rename_i e _ _; cases e; done) | (cases h; done) | simp_all)
theorem trod_slice {fuel : Nat} {t e : TypeId} {c : List Value} {x : DataW H × List MemPlace} (hu : P.underlying t = some (.slice e)) (h : DataW.trod enc P w base spare held (fuel + 1) t c = some x) :
    c = [.slice none 0 0] ∨ ∃ (a : Addr) (len cap : Nat) (es : List (DataW H × List MemPlace)) (sp : List (DataW H)), c = [.slice (some a) len cap] ∧ len ≤ cap ∧ x.1 = .slice (es.map (·.1)) sp ∧
      (List.range len).mapM (fun i => (w.cells? base (a.add (i * P.cellsOf e)) (P.cellsOf e)).bind (DataW.trod enc P w base spare held fuel e)) = some es := by
  unfold DataW.trod at h
  rw [hu] at h
  split at h
  case h_7 => exact .inl rfl
  case h_8 =>
    rename_i e1
    cases e1
    dsimp only at h
    split at h
    · rename_i hb
      rw [Option.bind_eq_some_iff] at h
      obtain ⟨es, h1, h2⟩ := h
      rw [Option.map_eq_some_iff] at h2
      obtain ⟨rest, _, h3⟩ := h2
      subst h3
      exact .inr ⟨_, _, _, es, _, rfl, hb.2.1, rfl, h1⟩
    · cases h
  all_goals (first | (rename_i e; cases e; done) | (rename_i e _; cases e; done) | (rename_i e _ _; cases e; done) | (cases h; done) | simp_all)
theorem trod_fields {fuel : Nat} {t : TypeId} {fs : Array Field} {c : List Value} {x : DataW H × List MemPlace} (hu : P.underlying t = some (.struct fs)) (h : DataW.trod enc P w base spare held (fuel + 1) t c = some x) :
    c.length = P.cellsOf t ∧ ∃ xs, (fs.toList.mapM fun f => DataW.trod enc P w base spare held fuel f.type ((c.drop f.offset).take (P.cellsOf f.type))) = some xs ∧ x.1 = .agg (xs.map (·.1)) := by
  unfold DataW.trod at h
  rw [hu] at h
  split at h
  case h_9 =>
    rename_i e1
    cases e1
    split at h
    · rename_i hl
      rw [Option.map_eq_some_iff] at h
      obtain ⟨xs, h1, h2⟩ := h
      subst h2
      exact ⟨hl, xs, h1, rfl⟩
    · cases h
  all_goals (first | (rename_i e; cases e; done) | (rename_i e _; cases e; done) | (rename_i e _ _; cases e; done) | (cases h; done) | simp_all)
theorem rows_rd {n fuel sz : Nat} {e : TypeId} {a : Addr} (ih : ∀ {t : TypeId} {c : List Value} {d : DataW H} {ps : List MemPlace}, plainT P n t = true → DataW.trod enc P w base spare held fuel t c = some (d, ps) → Rows.uptoBulk d ≤ big → ∃ ds, Rd w (fun _ => False) ds c ∧ Shape P n t ds)
    (hp : plainT P n e = true) (hsz : P.cellsOf e = sz) : ∀ {len k : Nat} {es : List (DataW H × List MemPlace)},
    ((List.range len).map (k + ·)).mapM (fun i => (w.cells? base (a.add (i * sz)) sz).bind (DataW.trod enc P w base spare held fuel e)) = some es → Rows.uptoBulkAll (es.map (·.1)) ≤ big →
    ∃ (rows : List (List D)) (cells : List (List Value)), rows.length = len ∧ cells.length = len ∧ Rd w (fun _ => False) rows.flatten cells.flatten ∧ (∀ r ∈ rows, r.length = sz ∧ Shape P n e r) ∧ (∀ c ∈ cells, c.length = sz) ∧
      ∀ (i : Nat) (h : i < cells.length) (j : Nat) v, cells[i][j]? = some v → w.cell? ((a.add ((k + i) * sz)).add j) = some v
  | 0, k, es, h, hb => ⟨[], [], rfl, rfl, .nil, (fun _ h => by cases h), (fun _ h => by cases h), fun i h => by simp at h⟩
  | len + 1, k, es, h, hb => by
    rw [List.range_succ_eq_map, List.map_cons, List.mapM_cons, List.map_map] at h
    rw [Nat.add_zero] at h
    cases h1 : (w.cells? base (a.add (k * sz)) sz).bind (DataW.trod enc P w base spare held fuel e) with
    | none => rw [h1] at h; cases h
    | some x =>
      rw [h1] at h
      have he : (fun i => k + i) ∘ Nat.succ = fun i => (k + 1) + i := by funext i; simp only [Function.comp]; omega
      have he' : ((fun x => k + x) ∘ Nat.succ) = fun i => (k + 1) + i := he
      rw [he'] at h
      cases h2 : ((List.range len).map (fun i => (k + 1) + i)).mapM (fun i => (w.cells? base (a.add (i * sz)) sz).bind (DataW.trod enc P w base spare held fuel e)) with
      | none => rw [h2] at h; cases h
      | some ys =>
        rw [h2] at h
        obtain rfl : x :: ys = es := Option.some.inj h
        simp only [List.map_cons, Rows.uptoBulkAll] at hb
        rw [Option.bind_eq_some_iff] at h1
        obtain ⟨c, hc, ht⟩ := h1
        obtain ⟨hl, hcell⟩ := cells_at hc
        obtain ⟨d1, r1, s1⟩ := ih (d := x.1) (ps := x.2) hp ht (by omega)
        obtain ⟨rows, cells, g1, g2, g3, g4, g5, g6⟩ := rows_rd ih hp hsz (k := k + 1) h2 (by omega)
        refine ⟨d1 :: rows, c :: cells, by simp [g1], by simp [g2], ?_, ?_, ?_, ?_⟩
        · rw [List.flatten_cons, List.flatten_cons]; exact r1.append g3
        · intro r hr
          rcases List.mem_cons.1 hr with q | q
          · subst q; exact ⟨by rw [← r1.length, hl], s1⟩
          · exact g4 r q
        · intro r hr
          rcases List.mem_cons.1 hr with q | q
          · subst q; exact hl
          · exact g5 r q
        · intro i hi j v hv
          cases i with
          | zero => exact hcell j v hv
          | succ i =>
            have := g6 i (by simpa using hi) j v hv
            rw [show k + 1 + i = k + (i + 1) from by omega] at this
            exact this
theorem trod_rd : ∀ {n : Nat} {fuel : Nat} {t : TypeId} {c : List Value} {d : DataW H} {ps : List MemPlace}, plainT P n t = true → DataW.trod enc P w base spare held fuel t c = some (d, ps) → Rows.uptoBulk d ≤ big →
    ∃ ds, Rd w (fun _ => False) ds c ∧ Shape P n t ds
  | 0, _, _, _, _, _, h, _, _ => by simp [plainT] at h
  | _ + 1, 0, _, _, _, _, _, h, _ => by simp [DataW.trod] at h
  | n + 1, fuel + 1, t, c, d, ps, hp, h, hb => by
    unfold plainT at hp
    unfold Shape
    split at hp
    · rename_i hu
      obtain ⟨b, rfl⟩ := trod_bool hu h
      exact ⟨_, .bool b .nil, b, rfl⟩
    · rename_i hu
      obtain ⟨i, rfl⟩ := trod_int hu h
      exact ⟨_, .int _ i .nil, i, rfl⟩
    · rename_i hu
      obtain ⟨s, rfl, hx⟩ := trod_string hu h
      refine ⟨[.str s.data.toList], ?_, _, rfl⟩
      have hx' : d = .lit (.string s.data.toList) := hx
      rw [hx'] at hb
      simp only [Rows.uptoBulk] at hb
      have : Rd w (fun _ => False) [.str s.data.toList] [.string (mkS s.data.toList)] := .str _ (by omega) .nil
      exact this
    · rename_i e hu
      rcases trod_slice hu h with rfl | ⟨a, len, cap, es, sp, rfl, hle, hx, hm⟩
      · exact ⟨[.list []], .list [] none 0 0 [] .nil (by simp) (.inl rfl) (Nat.le_refl _) (Nat.zero_le _) .nil, [], rfl, fun _ h => by cases h⟩
      · have hx' : d = .slice (es.map (·.1)) sp := hx
        rw [hx'] at hb
        simp only [Rows.uptoBulk] at hb
        obtain ⟨rows, cells, g1, g2, g3, g4, g5, g6⟩ := rows_rd (P := P) (a := a) (len := len) (k := 0) (es := es) (fun hp ht hb => trod_rd hp ht hb) hp rfl (by
          have : (List.range len).map (0 + ·) = List.range len := by simp
          rw [this]; exact hm) (by omega)
        have hlen : len ≤ big := by
          have h1 := (mapM_get hm).1
          rw [List.length_range] at h1
          have := bulk_len (l := es.map (·.1))
          rw [List.length_map] at this
          omega
        refine ⟨[.list rows], ?_, rows, rfl, fun r hr => (g4 r hr).2⟩
        rw [← g1]
        refine .list rows (some a) cap (P.cellsOf e) cells.flatten g3 (fun r hr => (g4 r hr).1) ?_ (by omega) (by omega) .nil
        by_cases hne : cells.flatten = []
        · exact .inl hne
        · have hsp : a.spot = none := by
            cases hc : cells with
            | nil => rw [hc] at hne; exact absurd rfl hne
            | cons c0 cs =>
              have hl0 : c0.length = P.cellsOf e := g5 c0 (by rw [hc]; exact List.mem_cons_self)
              have hpos : 0 < P.cellsOf e := by
                refine Nat.pos_of_ne_zero fun hz => hne ?_
                rw [List.flatten_eq_nil_iff]
                intro l hl
                exact List.eq_nil_of_length_eq_zero (by rw [g5 l hl, hz])
              have := g6 0 (by rw [hc]; simp) 0 (c0[0]'(by omega)) (by simp only [hc, List.getElem_cons_zero]; rw [List.getElem?_eq_getElem])
              rw [Nat.zero_add, Nat.zero_mul] at this
              exact spot_none this
          refine .inr ⟨a.block, a.off, by rw [show a = ⟨a.block, a.off, none⟩ from by cases a; simp_all], fun h => h, fun j v hv => ?_⟩
          have := rows_at (w := w) (b := a.block) (o := a.off) (sz := P.cellsOf e) (rows := cells) (k := 0) g5 (fun i hi j v hv => by
            have := g6 i hi j v hv
            rw [add_eq hsp, add_eq (by rfl), Nat.add_assoc] at this
            exact this) j v hv
          rw [Nat.zero_mul, Nat.zero_add] at this
          exact this
    · rename_i fs hu
      obtain ⟨hl, xs, hm, hx⟩ := trod_fields hu h
      have hx' : d = .agg (xs.map (·.1)) := hx
      rw [hx'] at hb
      simp only [Rows.uptoBulk] at hb
      simp only [Bool.and_eq_true, beq_iff_eq, List.all_eq_true] at hp
      obtain ⟨ds, r1, s1⟩ := fields_rd (P := P) (cs := c) (fun hp ht hb => trod_rd hp ht hb) hp.1 hp.2 (Nat.zero_le _) hl.symm hm (by omega)
      exact ⟨ds, r1, s1⟩
    · cases hp
end
def isStruct (P : Program) (t : TypeId) : Bool := match P.underlying t with
  | some (.struct _) => true
  | _ => false
theorem structT_of {P : Program} {t : TypeId} (h : isStruct P t = true) : ∃ fs, P.underlying t = some (.struct fs) := by
  unfold isStruct at h
  split at h
  · rename_i fs hu; exact ⟨fs, hu⟩
  · cases h
theorem agg_of {P : Program} {w : World} {base : Nat} {t : TypeId} {fs : Array Field} {v : Value} (hu : P.underlying t = some (.struct fs)) (h : Value.okWide P w .any base t v) : ∃ cs, v = .agg cs := by
  unfold Value.okWide at h
  rw [hu] at h
  obtain ⟨cs, e, _⟩ := h
  exact ⟨cs, e⟩
end Go.Vc
end

section
namespace Go.Vc
open Go.Proofs Go.Proofs.YtpcmdecphigjaaaGreatDoor
set_option linter.unusedSimpArgs false
set_option linter.unusedVariables false
/-! no cell is taken as it is -/
mutual
def D.pl : D → Prop
  | .int _ _ => True
  | .bool _ => True
  | .str _ => True
  | .list rows => plRows rows
  | .fn _ => True
  | .raw _ => False
termination_by structural x => x
def plRows : List (List D) → Prop
  | [] => True
  | r :: rs => plRow r ∧ plRows rs
termination_by structural x => x
def plRow : List D → Prop
  | [] => True
  | d :: ds => d.pl ∧ plRow ds
termination_by structural x => x
end
theorem plRow_append {xs ys : List D} : plRow (xs ++ ys) ↔ plRow xs ∧ plRow ys := by
  induction xs with
  | nil => simp [plRow]
  | cons x xs ih => simp only [List.cons_append, plRow, ih, and_assoc]
theorem plRows_flatten : ∀ {rows : List (List D)}, plRows rows → plRow rows.flatten
  | [], _ => trivial
  | r :: rs, h => by
    rw [List.flatten_cons, plRow_append]
    exact ⟨h.1, plRows_flatten h.2⟩
theorem plRows_all : ∀ {rows : List (List D)}, (∀ r ∈ rows, plRow r) → plRows rows
  | [], _ => trivial
  | r :: rs, h => ⟨h r List.mem_cons_self, plRows_all fun x hx => h x (List.mem_cons_of_mem _ hx)⟩
theorem shape_pl {P : Program} : ∀ {n : Nat} {t : TypeId} {ds : List D}, Shape P n t ds → plRow ds
  | 0, _, _, h => h.elim
  | n + 1, t, ds, h => by
    unfold Shape at h
    split at h
    · obtain ⟨b, rfl⟩ := h; exact ⟨trivial, trivial⟩
    · obtain ⟨b, rfl⟩ := h; exact ⟨trivial, trivial⟩
    · obtain ⟨b, rfl⟩ := h; exact ⟨trivial, trivial⟩
    · obtain ⟨rows, rfl, h⟩ := h
      exact ⟨plRows_all fun r hr => shape_pl (h r hr), trivial⟩
    · rename_i fs hu
      have key : ∀ (ts : List TypeId) (ds : List D), ShapeFs (Shape P n) ts ds → plRow ds := by
        intro ts
        induction ts with
        | nil => intro ds h; rw [show ds = [] from h]; trivial
        | cons t ts ih =>
          rintro ds ⟨a, b, rfl, h1, h2⟩
          rw [plRow_append]
          exact ⟨shape_pl h1, ih _ h2⟩
      exact key _ _ h
    · exact h.elim
theorem Rd.beside {w : World} {N : Nat → Prop} (hI : ∀ b, N b → ∀ off v, w.cell? ⟨b, off, none⟩ = some v → ∃ t u, v = .iface t u) {ds : List D} {cs : List Value} (h : Rd w (fun _ => False) ds cs) : plRow ds → Rd w N ds cs := by
  induction h with
  | nil => intro _; exact .nil
  | int a b _ ih => intro hp; exact .int a b (ih hp.2)
  | bool b _ ih => intro hp; exact .bool b (ih hp.2)
  | str s hs _ ih => intro hp; exact .str s hs (ih hp.2)
  | fn f _ ih => intro hp; exact .fn f (ih hp.2)
  | raw v _ _ _ => intro hp; exact hp.1.elim
  | list rows A cap sz cells h1 h2 h3 h4 h5 _ ih1 ih2 =>
    intro hp
    have hr : plRow rows.flatten := plRows_flatten hp.1
    refine .list rows A cap sz cells (ih1 hr) h2 ?_ h4 h5 (ih2 hp.2)
    rcases h3 with h3 | ⟨b, o, rfl, _, hc⟩
    · exact .inl h3
    · cases cells with
      | nil => exact .inl rfl
      | cons c0 cs =>
        refine .inr ⟨b, o, rfl, fun hN => ?_, hc⟩
        obtain ⟨t, u, rfl⟩ := hI b hN _ _ (hc 0 _ rfl)
        cases hq : rows.flatten with
        | nil => rw [hq] at h1; cases h1
        | cons d ds =>
          rw [hq] at h1 hr
          cases h1 with
          | raw _ _ _ => exact hr.1
/-- the blocks of the package variables that are known -/
def lgN : Nat → Prop := fun b => ∃ p ∈ LG, p.1 = b
structure LgOk (w : World) : Prop where
  lw : LwOk lgN w
  ifc : ∀ b, lgN b → ∀ off v, w.cell? ⟨b, off, none⟩ = some v → ∃ t u, v = .iface t u
theorem LgOk.bnd {w : World} (h : LgOk w) : ∀ b, lgN b → b < w.heap.size := by
  rintro b ⟨p, hp, rfl⟩
  exact cell?_lt (h.lw p hp).2
end Go.Vc
end

section
namespace Go.Vc
open Go.Proofs
set_option maxRecDepth 100000
set_option linter.unusedSimpArgs false
set_option linter.unusedVariables false
theorem rows_un {α : Type} {e : α → List D} : ∀ {rows : List (List D)}, (∀ r ∈ rows, ∃ x, r = e x) → ∃ xs : List α, rows = xs.map e
  | [], _ => ⟨[], rfl⟩
  | r :: rs, h => by
    obtain ⟨x, hx⟩ := h r List.mem_cons_self
    obtain ⟨xs, hxs⟩ := rows_un fun r hr => h r (List.mem_cons_of_mem _ hr)
    exact ⟨x :: xs, by rw [hx, hxs]; rfl⟩
theorem un_slice {α : Type} {e : α → List D} {P : Program} {n : Nat} {t u : TypeId} {ds : List D} (hu : P.underlying t = some (.slice u)) (he : ∀ {n : Nat} {ds : List D}, Shape P n u ds → ∃ x, ds = e x) (h : Shape P n t ds) : ∃ xs : List α, ds = [.list (xs.map e)] := by
  cases n with
  | zero => exact h.elim
  | succ n =>
    unfold Shape at h
    rw [hu] at h
    obtain ⟨rows, rfl, hr⟩ := h
    obtain ⟨xs, hxs⟩ := rows_un fun r hrr => he (hr r hrr)
    exact ⟨xs, by rw [hxs]⟩
theorem un_int {n : Nat} {ds : List D} (h : Shape P n 3 ds) : ∃ x : Int, ds = eN x := by
  cases n with
  | zero => exact h.elim
  | succ n =>
    unfold Shape at h
    rw [show P.underlying 3 = some (.int .i64) from by kernel_rfl] at h
    exact h
theorem un_string {n : Nat} {ds : List D} (h : Shape P n 9 ds) : ∃ x : Bs, ds = eB x := by
  cases n with
  | zero => exact h.elim
  | succ n =>
    unfold Shape at h
    rw [show P.underlying 9 = some .string from by kernel_rfl] at h
    exact h
theorem un_bool {n : Nat} {ds : List D} (h : Shape P n 4 ds) : ∃ x : Bool, ds = [.bool x] := by
  cases n with
  | zero => exact h.elim
  | succ n =>
    unfold Shape at h
    rw [show P.underlying 4 = some .bool from by kernel_rfl] at h
    exact h
theorem un_GateField {n : Nat} {ds : List D} (h : Shape P n 220 ds) : ∃ x : GateField, ds = x.e := by
  cases n with
  | zero => exact h.elim
  | succ n =>
    have h := shape_fields (P := P) (t := 220) (ts := [9, 3, 3, 3, 119, 9, 3, 4, 4, 9, 9]) (by kernel_rfl) h
    simp only [ShapeFs] at h
    obtain ⟨a0, b0, rfl, h0, ⟨a1, b1, rfl, h1, ⟨a2, b2, rfl, h2, ⟨a3, b3, rfl, h3, ⟨a4, b4, rfl, h4, ⟨a5, b5, rfl, h5, ⟨a6, b6, rfl, h6, ⟨a7, b7, rfl, h7, ⟨a8, b8, rfl, h8, ⟨a9, b9, rfl, h9, ⟨a10, b10, rfl, h10, rfl⟩⟩⟩⟩⟩⟩⟩⟩⟩⟩⟩ := h
    obtain ⟨x0, rfl⟩ := un_string h0
    obtain ⟨x1, rfl⟩ := un_int h1
    obtain ⟨x2, rfl⟩ := un_int h2
    obtain ⟨x3, rfl⟩ := un_int h3
    obtain ⟨x4, rfl⟩ := (un_slice (e := eB) (show P.underlying 119 = some (.slice 9) from by kernel_rfl) un_string) h4
    obtain ⟨x5, rfl⟩ := un_string h5
    obtain ⟨x6, rfl⟩ := un_int h6
    obtain ⟨x7, rfl⟩ := un_bool h7
    obtain ⟨x8, rfl⟩ := un_bool h8
    obtain ⟨x9, rfl⟩ := un_string h9
    obtain ⟨x10, rfl⟩ := un_string h10
    exact ⟨⟨x0, x1, x2, x3, x4, x5, x6, x7, x8, x9, x10⟩, rfl⟩
theorem un_GateShape {n : Nat} {ds : List D} (h : Shape P n 111 ds) : ∃ x : GateShape, ds = x.e := by
  cases n with
  | zero => exact h.elim
  | succ n =>
    have h := shape_fields (P := P) (t := 111) (ts := [9, 109]) (by kernel_rfl) h
    simp only [ShapeFs] at h
    obtain ⟨a0, b0, rfl, h0, ⟨a1, b1, rfl, h1, rfl⟩⟩ := h
    obtain ⟨x0, rfl⟩ := un_string h0
    obtain ⟨x1, rfl⟩ := (un_slice (e := GateField.e) (show P.underlying 109 = some (.slice 220) from by kernel_rfl) un_GateField) h1
    exact ⟨⟨x0, x1⟩, rfl⟩
theorem un_GateMend {n : Nat} {ds : List D} (h : Shape P n 114 ds) : ∃ x : GateMend, ds = x.e := by
  cases n with
  | zero => exact h.elim
  | succ n =>
    have h := shape_fields (P := P) (t := 114) (ts := [9, 9, 9, 9, 9, 9]) (by kernel_rfl) h
    simp only [ShapeFs] at h
    obtain ⟨a0, b0, rfl, h0, ⟨a1, b1, rfl, h1, ⟨a2, b2, rfl, h2, ⟨a3, b3, rfl, h3, ⟨a4, b4, rfl, h4, ⟨a5, b5, rfl, h5, rfl⟩⟩⟩⟩⟩⟩ := h
    obtain ⟨x0, rfl⟩ := un_string h0
    obtain ⟨x1, rfl⟩ := un_string h1
    obtain ⟨x2, rfl⟩ := un_string h2
    obtain ⟨x3, rfl⟩ := un_string h3
    obtain ⟨x4, rfl⟩ := un_string h4
    obtain ⟨x5, rfl⟩ := un_string h5
    exact ⟨⟨x0, x1, x2, x3, x4, x5⟩, rfl⟩
theorem un_GateTeam {n : Nat} {ds : List D} (h : Shape P n 117 ds) : ∃ x : GateTeam, ds = x.e := by
  cases n with
  | zero => exact h.elim
  | succ n =>
    have h := shape_fields (P := P) (t := 117) (ts := [9, 9]) (by kernel_rfl) h
    simp only [ShapeFs] at h
    obtain ⟨a0, b0, rfl, h0, ⟨a1, b1, rfl, h1, rfl⟩⟩ := h
    obtain ⟨x0, rfl⟩ := un_string h0
    obtain ⟨x1, rfl⟩ := un_string h1
    exact ⟨⟨x0, x1⟩, rfl⟩
theorem un_GateLaw {n : Nat} {ds : List D} (h : Shape P n 26 ds) : ∃ x : GateLaw, ds = x.e := by
  cases n with
  | zero => exact h.elim
  | succ n =>
    have h := shape_fields (P := P) (t := 26) (ts := [22, 23, 24]) (by kernel_rfl) h
    simp only [ShapeFs] at h
    obtain ⟨a0, b0, rfl, h0, ⟨a1, b1, rfl, h1, ⟨a2, b2, rfl, h2, rfl⟩⟩⟩ := h
    obtain ⟨x0, rfl⟩ := (un_slice (e := GateShape.e) (show P.underlying 22 = some (.slice 111) from by kernel_rfl) un_GateShape) h0
    obtain ⟨x1, rfl⟩ := (un_slice (e := GateMend.e) (show P.underlying 23 = some (.slice 114) from by kernel_rfl) un_GateMend) h1
    obtain ⟨x2, rfl⟩ := (un_slice (e := GateTeam.e) (show P.underlying 24 = some (.slice 117) from by kernel_rfl) un_GateTeam) h2
    exact ⟨⟨x0, x1, x2⟩, rfl⟩
theorem un_GateObject {n : Nat} {ds : List D} (h : Shape P n 121 ds) : ∃ x : GateObject, ds = x.e := by
  cases n with
  | zero => exact h.elim
  | succ n =>
    have h := shape_fields (P := P) (t := 121) (ts := [9, 9, 9, 119, 4, 119, 3]) (by kernel_rfl) h
    simp only [ShapeFs] at h
    obtain ⟨a0, b0, rfl, h0, ⟨a1, b1, rfl, h1, ⟨a2, b2, rfl, h2, ⟨a3, b3, rfl, h3, ⟨a4, b4, rfl, h4, ⟨a5, b5, rfl, h5, ⟨a6, b6, rfl, h6, rfl⟩⟩⟩⟩⟩⟩⟩ := h
    obtain ⟨x0, rfl⟩ := un_string h0
    obtain ⟨x1, rfl⟩ := un_string h1
    obtain ⟨x2, rfl⟩ := un_string h2
    obtain ⟨x3, rfl⟩ := (un_slice (e := eB) (show P.underlying 119 = some (.slice 9) from by kernel_rfl) un_string) h3
    obtain ⟨x4, rfl⟩ := un_bool h4
    obtain ⟨x5, rfl⟩ := (un_slice (e := eB) (show P.underlying 119 = some (.slice 9) from by kernel_rfl) un_string) h5
    obtain ⟨x6, rfl⟩ := un_int h6
    exact ⟨⟨x0, x1, x2, x3, x4, x5, x6⟩, rfl⟩
theorem un_GateRule {n : Nat} {ds : List D} (h : Shape P n 123 ds) : ∃ x : GateRule, ds = x.e := by
  cases n with
  | zero => exact h.elim
  | succ n =>
    have h := shape_fields (P := P) (t := 123) (ts := [101, 9, 9, 9]) (by kernel_rfl) h
    simp only [ShapeFs] at h
    obtain ⟨a0, b0, rfl, h0, ⟨a1, b1, rfl, h1, ⟨a2, b2, rfl, h2, ⟨a3, b3, rfl, h3, rfl⟩⟩⟩⟩ := h
    obtain ⟨x0, rfl⟩ := (un_slice (e := eN) (show P.underlying 101 = some (.slice 3) from by kernel_rfl) un_int) h0
    obtain ⟨x1, rfl⟩ := un_string h1
    obtain ⟨x2, rfl⟩ := un_string h2
    obtain ⟨x3, rfl⟩ := un_string h3
    exact ⟨⟨x0, x1, x2, x3⟩, rfl⟩
theorem un_GateGrant {n : Nat} {ds : List D} (h : Shape P n 125 ds) : ∃ x : GateGrant, ds = x.e := by
  cases n with
  | zero => exact h.elim
  | succ n =>
    have h := shape_fields (P := P) (t := 125) (ts := [3, 9, 9, 123]) (by kernel_rfl) h
    simp only [ShapeFs] at h
    obtain ⟨a0, b0, rfl, h0, ⟨a1, b1, rfl, h1, ⟨a2, b2, rfl, h2, ⟨a3, b3, rfl, h3, rfl⟩⟩⟩⟩ := h
    obtain ⟨x0, rfl⟩ := un_int h0
    obtain ⟨x1, rfl⟩ := un_string h1
    obtain ⟨x2, rfl⟩ := un_string h2
    obtain ⟨x3, rfl⟩ := un_GateRule h3
    exact ⟨⟨x0, x1, x2, x3⟩, rfl⟩
theorem un_GateLedger {n : Nat} {ds : List D} (h : Shape P n 128 ds) : ∃ x : GateLedger, ds = x.e := by
  cases n with
  | zero => exact h.elim
  | succ n =>
    have h := shape_fields (P := P) (t := 128) (ts := [9, 9, 3, 3]) (by kernel_rfl) h
    simp only [ShapeFs] at h
    obtain ⟨a0, b0, rfl, h0, ⟨a1, b1, rfl, h1, ⟨a2, b2, rfl, h2, ⟨a3, b3, rfl, h3, rfl⟩⟩⟩⟩ := h
    obtain ⟨x0, rfl⟩ := un_string h0
    obtain ⟨x1, rfl⟩ := un_string h1
    obtain ⟨x2, rfl⟩ := un_int h2
    obtain ⟨x3, rfl⟩ := un_int h3
    exact ⟨⟨x0, x1, x2, x3⟩, rfl⟩
theorem un_GatePurse {n : Nat} {ds : List D} (h : Shape P n 131 ds) : ∃ x : GatePurse, ds = x.e := by
  cases n with
  | zero => exact h.elim
  | succ n =>
    have h := shape_fields (P := P) (t := 131) (ts := [9, 9, 9, 3, 3]) (by kernel_rfl) h
    simp only [ShapeFs] at h
    obtain ⟨a0, b0, rfl, h0, ⟨a1, b1, rfl, h1, ⟨a2, b2, rfl, h2, ⟨a3, b3, rfl, h3, ⟨a4, b4, rfl, h4, rfl⟩⟩⟩⟩⟩ := h
    obtain ⟨x0, rfl⟩ := un_string h0
    obtain ⟨x1, rfl⟩ := un_string h1
    obtain ⟨x2, rfl⟩ := un_string h2
    obtain ⟨x3, rfl⟩ := un_int h3
    obtain ⟨x4, rfl⟩ := un_int h4
    exact ⟨⟨x0, x1, x2, x3, x4⟩, rfl⟩
theorem un_GateBook {n : Nat} {ds : List D} (h : Shape P n 32 ds) : ∃ x : GateBook, ds = x.e := by
  cases n with
  | zero => exact h.elim
  | succ n =>
    have h := shape_fields (P := P) (t := 32) (ts := [3, 3, 3, 27, 28, 29, 30]) (by kernel_rfl) h
    simp only [ShapeFs] at h
    obtain ⟨a0, b0, rfl, h0, ⟨a1, b1, rfl, h1, ⟨a2, b2, rfl, h2, ⟨a3, b3, rfl, h3, ⟨a4, b4, rfl, h4, ⟨a5, b5, rfl, h5, ⟨a6, b6, rfl, h6, rfl⟩⟩⟩⟩⟩⟩⟩ := h
    obtain ⟨x0, rfl⟩ := un_int h0
    obtain ⟨x1, rfl⟩ := un_int h1
    obtain ⟨x2, rfl⟩ := un_int h2
    obtain ⟨x3, rfl⟩ := (un_slice (e := GateObject.e) (show P.underlying 27 = some (.slice 121) from by kernel_rfl) un_GateObject) h3
    obtain ⟨x4, rfl⟩ := (un_slice (e := GateGrant.e) (show P.underlying 28 = some (.slice 125) from by kernel_rfl) un_GateGrant) h4
    obtain ⟨x5, rfl⟩ := (un_slice (e := GateLedger.e) (show P.underlying 29 = some (.slice 128) from by kernel_rfl) un_GateLedger) h5
    obtain ⟨x6, rfl⟩ := (un_slice (e := GatePurse.e) (show P.underlying 30 = some (.slice 131) from by kernel_rfl) un_GatePurse) h6
    exact ⟨⟨x0, x1, x2, x3, x4, x5, x6⟩, rfl⟩
theorem un_GateAsk {n : Nat} {ds : List D} (h : Shape P n 250 ds) : ∃ x : GateAsk, ds = x.e := by
  cases n with
  | zero => exact h.elim
  | succ n =>
    have h := shape_fields (P := P) (t := 250) (ts := [9, 3, 9, 9, 9, 119, 119, 3, 9, 9, 123, 3]) (by kernel_rfl) h
    simp only [ShapeFs] at h
    obtain ⟨a0, b0, rfl, h0, ⟨a1, b1, rfl, h1, ⟨a2, b2, rfl, h2, ⟨a3, b3, rfl, h3, ⟨a4, b4, rfl, h4, ⟨a5, b5, rfl, h5, ⟨a6, b6, rfl, h6, ⟨a7, b7, rfl, h7, ⟨a8, b8, rfl, h8, ⟨a9, b9, rfl, h9, ⟨a10, b10, rfl, h10, ⟨a11, b11, rfl, h11, rfl⟩⟩⟩⟩⟩⟩⟩⟩⟩⟩⟩⟩ := h
    obtain ⟨x0, rfl⟩ := un_string h0
    obtain ⟨x1, rfl⟩ := un_int h1
    obtain ⟨x2, rfl⟩ := un_string h2
    obtain ⟨x3, rfl⟩ := un_string h3
    obtain ⟨x4, rfl⟩ := un_string h4
    obtain ⟨x5, rfl⟩ := (un_slice (e := eB) (show P.underlying 119 = some (.slice 9) from by kernel_rfl) un_string) h5
    obtain ⟨x6, rfl⟩ := (un_slice (e := eB) (show P.underlying 119 = some (.slice 9) from by kernel_rfl) un_string) h6
    obtain ⟨x7, rfl⟩ := un_int h7
    obtain ⟨x8, rfl⟩ := un_string h8
    obtain ⟨x9, rfl⟩ := un_string h9
    obtain ⟨x10, rfl⟩ := un_GateRule h10
    obtain ⟨x11, rfl⟩ := un_int h11
    exact ⟨⟨x0, x1, x2, x3, x4, x5, x6, x7, x8, x9, x10, x11⟩, rfl⟩
theorem un_GateWant {n : Nat} {ds : List D} (h : Shape P n 314 ds) : ∃ x : GateWant, ds = x.e := by
  cases n with
  | zero => exact h.elim
  | succ n =>
    have h := shape_fields (P := P) (t := 314) (ts := [9, 9, 3]) (by kernel_rfl) h
    simp only [ShapeFs] at h
    obtain ⟨a0, b0, rfl, h0, ⟨a1, b1, rfl, h1, ⟨a2, b2, rfl, h2, rfl⟩⟩⟩ := h
    obtain ⟨x0, rfl⟩ := un_string h0
    obtain ⟨x1, rfl⟩ := un_string h1
    obtain ⟨x2, rfl⟩ := un_int h2
    exact ⟨⟨x0, x1, x2⟩, rfl⟩
theorem un_GateSlip {n : Nat} {ds : List D} (h : Shape P n 253 ds) : ∃ x : GateSlip, ds = x.e := by
  cases n with
  | zero => exact h.elim
  | succ n =>
    have h := shape_fields (P := P) (t := 253) (ts := [9, 250, 3, 251]) (by kernel_rfl) h
    simp only [ShapeFs] at h
    obtain ⟨a0, b0, rfl, h0, ⟨a1, b1, rfl, h1, ⟨a2, b2, rfl, h2, ⟨a3, b3, rfl, h3, rfl⟩⟩⟩⟩ := h
    obtain ⟨x0, rfl⟩ := un_string h0
    obtain ⟨x1, rfl⟩ := un_GateAsk h1
    obtain ⟨x2, rfl⟩ := un_int h2
    obtain ⟨x3, rfl⟩ := (un_slice (e := GateWant.e) (show P.underlying 251 = some (.slice 314) from by kernel_rfl) un_GateWant) h3
    exact ⟨⟨x0, x1, x2, x3⟩, rfl⟩
theorem un_GateDoor {n : Nat} {ds : List D} (h : Shape P n 164 ds) : ∃ x : GateDoor, ds = x.e := by
  cases n with
  | zero => exact h.elim
  | succ n =>
    have h := shape_fields (P := P) (t := 164) (ts := [9, 4, 32, 162]) (by kernel_rfl) h
    simp only [ShapeFs] at h
    obtain ⟨a0, b0, rfl, h0, ⟨a1, b1, rfl, h1, ⟨a2, b2, rfl, h2, ⟨a3, b3, rfl, h3, rfl⟩⟩⟩⟩ := h
    obtain ⟨x0, rfl⟩ := un_string h0
    obtain ⟨x1, rfl⟩ := un_bool h1
    obtain ⟨x2, rfl⟩ := un_GateBook h2
    obtain ⟨x3, rfl⟩ := (un_slice (e := GateSlip.e) (show P.underlying 162 = some (.slice 253) from by kernel_rfl) un_GateSlip) h3
    exact ⟨⟨x0, x1, x2, x3⟩, rfl⟩
theorem un_GateWorld {n : Nat} {ds : List D} (h : Shape P n 59 ds) : ∃ x : GateWorld, ds = x.e := by
  cases n with
  | zero => exact h.elim
  | succ n =>
    have h := shape_fields (P := P) (t := 59) (ts := [32, 57]) (by kernel_rfl) h
    simp only [ShapeFs] at h
    obtain ⟨a0, b0, rfl, h0, ⟨a1, b1, rfl, h1, rfl⟩⟩ := h
    obtain ⟨x0, rfl⟩ := un_GateBook h0
    obtain ⟨x1, rfl⟩ := (un_slice (e := GateDoor.e) (show P.underlying 57 = some (.slice 164) from by kernel_rfl) un_GateDoor) h1
    exact ⟨⟨x0, x1⟩, rfl⟩
theorem un_GateAct {n : Nat} {ds : List D} (h : Shape P n 34 ds) : ∃ x : GateAct, ds = x.e := by
  cases n with
  | zero => exact h.elim
  | succ n =>
    have h := shape_fields (P := P) (t := 34) (ts := [3, 9, 9, 9]) (by kernel_rfl) h
    simp only [ShapeFs] at h
    obtain ⟨a0, b0, rfl, h0, ⟨a1, b1, rfl, h1, ⟨a2, b2, rfl, h2, ⟨a3, b3, rfl, h3, rfl⟩⟩⟩⟩ := h
    obtain ⟨x0, rfl⟩ := un_int h0
    obtain ⟨x1, rfl⟩ := un_string h1
    obtain ⟨x2, rfl⟩ := un_string h2
    obtain ⟨x3, rfl⟩ := un_string h3
    exact ⟨⟨x0, x1, x2, x3⟩, rfl⟩
end Go.Vc
end

section
namespace Go.Vc
open Go.Proofs Go.ChangeShapes Go.WideShapes Go.RowKit
set_option linter.unusedSimpArgs false
set_option linter.unusedVariables false
section
variable {H : Type} {enc : TypeId × Value → H} {P : Program} {w w' : World} {base : Nat} {sp : Nat → Bool} {held : Bool}
theorem trodAll_carry : ∀ {ts : List TypeId} {vs : List Value} {ds : List (DataW H)} {ps : List MemPlace}, DataW.TrodAll enc P w base sp held ts vs ds ps → (∀ p ∈ ps, w.sameAt w' p) → DataW.TrodAll enc P w' base sp held ts vs ds ps
  | [], [], [], _, h, _ => h
  | _ :: _, _ :: _, _ :: _, _, ⟨p, q, ⟨n, h1⟩, h2, e⟩, hs => ⟨p, q, ⟨n, DataW.trod_carry n _ _ _ h1 (fun x hx => hs x (by rw [e]; exact List.mem_append_left _ hx))⟩, trodAll_carry h2 (fun x hx => hs x (by rw [e]; exact List.mem_append_right _ hx)), e⟩
theorem Kp.same (k : Kp (fun _ => False) w w') {p : MemPlace} (h : p.block < w.heap.size) : w.sameAt w' p := by
  have e := k.blk p.block h (fun f => f)
  cases p with
  | cell b off => exact World.cell?_of_block (w := w) (a := ⟨b, off, none⟩) e
  | map b => exact e
theorem Kp.kept (k : Kp (fun _ => False) w w') (may : MemPlace → Prop) : w.keptBut w' may := by
  refine ⟨k.os, k.output, fun i hi => ?_⟩
  rw [k.blk i hi (fun f => f)]
  exact (World.keptBut_refl w may).2.2 i hi
/-- a law's post: it returns true, and nothing that was there is written -/
theorem post_same {f : Func} {s : ChangeSpec} {apart fresh handsOn again : Bool} {W W' : World} {args : Array Value} {t : TypeId} {ds gs : List (DataW H)} {before : List MemPlace}
    (hl : laidOutB P = true) (hm : mapsRowed P = true) (hz : ((List.range P.types.size).all fun t => match P.underlying t with | some (.slice e) => decide (0 < P.cellsOf e) | _ => true) = true)
    (hpar : ∀ t ∈ f.params.toList, t < P.types.size) (hv : s.vars = []) (hrt : f.resultTypes = #[t]) (htb : P.underlying t = some .bool)
    (hW : DataW.Whole enc P f.params.toList s.vars apart W args.toList ds gs before) (hk : Kp (fun _ => False) W W') (hfn : s.fn H ds = { results := [.lit (.bool true)], args := ds }) :
    s.post enc P f apart fresh handsOn again W args (.bool true) W' := by
  have hlt := hW.lt
  have hW0 := hW
  obtain ⟨p, q, hA, hV, rfl, hfz, hnd⟩ := hW
  rw [hv] at hV
  obtain ⟨rfl, rfl⟩ := trodVars_none hV
  rw [List.append_nil] at hlt hfz hnd hW0
  have hargs : ∀ sp : Nat → Bool, (∀ x ∈ p, sp x.block = true) → DataW.TrodAll enc P W' 0 sp true f.params.toList args.toList ds p := fun sp hs =>
    DataW.TrodAll.respare (kids_rows hl hm) (fun t e ht hu => slices_full_of P hz t e ht hu) hpar (trodAll_carry hA (fun x hx => hk.same (hlt x hx))) hs
  have hold : ∀ x ∈ p, (fun b => decide (b < W.heap.size)) x.block = true := fun x hx => by simpa using hlt x hx
  have hres : ∀ (b : Nat) (sp : Nat → Bool) (hd : Bool), DataW.TrodAll enc P W' b sp hd f.resultTypes.toList ((Value.bool true).resultList f.resultTypes.size) [.lit (.bool true)] [] := by
    intro b sp hd
    rw [hrt]
    exact trodAll_cons_mk (shut_bool htb _) trodAll_mk0
  refine ⟨ds, [], p, [], p, [], hW0, ?_, ?_, ?_, hk.kept _, fun _ => ?_⟩
  · rw [List.append_nil, hfn]; exact hres _ _ _
  · rw [List.append_nil, hfn]; exact hargs _ hold
  · rw [List.append_nil, hfn, hv]; exact (rfl : DataW.TrodVars enc P W' _ [] [] [])
  · refine ⟨ok_one hrt rfl (okWide_bool_mk htb _), [.lit (.bool true)] ++ ds, [], ([] ++ p) ++ [], ⟨[] ++ p, [], trodAll_append (hargs _ (fun _ _ => rfl)) (hres _ _ _), by rw [hv]; exact (rfl : DataW.TrodVars enc P W' _ [] [] []), rfl, ?_, ?_⟩, ?_⟩
    · intro b off hp
      have hp' : MemPlace.cell b off ∈ p := by simpa using hp
      have e := hk.blk b (hlt _ hp') (fun f => f)
      have := hfz b off hp'
      unfold World.frozen? at this ⊢
      simp only [e]; exact this
    · intro ha
      simpa using hnd ha
    · intro x hx _
      simpa using hx
end
end Go.Vc
end

section
namespace Go.Vc
open Go.Proofs Go.Proofs.YtpcmdecphigjaaaGreatDoor
set_option maxRecDepth 100000
theorem own : ownKnob Tryz.prog.godebug = none := by kernel_rfl
theorem et : P.globalNamed "errors.errorType" = some 0 := by kernel_rfl
theorem rt : (P.cutTypes.find? (·.1 == "internal/reflectlite.rtype")).map (·.2) = some 326 := by kernel_rfl
theorem oneRow : ((List.range P.types.size).filter fun t => P.rowNamed t [101, 114, 114, 111, 114]) = [238] := by kernel_rfl
abbrev laidE : List (String × DataW Unit) := [("errors.errorType", Rows.laid_errors_errorType)]
theorem lg_of_laid {W : World} (h : laidMetH P laidE W) : LgOk W := by
  have h' : laidMet P [] W ∧ handlesMet P laidE W := h
  obtain ⟨name, u, ty, e1, e2, e3, e4, e5⟩ := h'.2 _ (List.mem_singleton.2 rfl)
  have en : name = [101, 114, 114, 111, 114] := (Option.some.inj e1).symm
  subst en
  obtain rfl := Option.some.inj (rt.symm.trans e2)
  have hm : ty ∈ (List.range P.types.size).filter fun t => P.rowNamed t [101, 114, 114, 111, 114] := List.mem_filter.2 ⟨List.mem_range.2 e3, e4⟩
  rw [oneRow] at hm
  obtain rfl := List.mem_singleton.1 hm
  have hh : typeHandle P 238 = .pointer (some ⟨1, 238, none⟩) := by kernel_rfl
  rw [hh] at e5
  have hc := World.var?_cell et e5
  refine ⟨fun p hp => ?_, ?_⟩
  · obtain rfl := List.mem_singleton.1 hp
    exact ⟨⟨_, hp, rfl⟩, by simpa using hc 0⟩
  · rintro b ⟨p, hp, rfl⟩ off v hv
    obtain rfl := List.mem_singleton.1 hp
    have := hc off
    simp only at this hv
    rw [this] at hv
    cases off with
    | zero => simp at hv; exact ⟨_, _, hv.symm⟩
    | succ k => simp at hv
/-- a world for the witness -/
noncomputable def laidWorld (os : Os) : World :=
  { World.holding Tryz.prog os ⟨#[], #[], []⟩ with heap := (World.holding Tryz.prog os ⟨#[], #[], []⟩).heap.modify 0 fun
      | .cells _ t frozen => .cells #[.iface 326 (.agg #[.pointer (some ⟨1, 238, none⟩)])] t frozen
      | o => o }
theorem laid_met (os : Os) (args : Array Value) : laidMetH Tryz.prog laidE ((laidWorld os).forCall (fun _ _ => 0) ⟨#[], args, []⟩).memory :=
  laidMetH_of_parts (laidMet_nil _ _) (by kernel_rfl)
theorem strV_of {Q : Program} {w : World} {base : Nat} {t : TypeId} {v : Value} (hu : Q.underlying t = some .string) (h : Value.okWide Q w .any base t v) : ∃ s, v = .string s := by
  unfold Value.okWide Cell.okWide Cell.ok at h
  simp only [hu] at h
  cases v <;> first | exact ⟨_, rfl⟩ | exact absurd h (by simp)
end Go.Vc
end

section
namespace Go.Vc
open Go.Proofs Go.RowKit Go.Extern.Stop Go.Stop Go.Extern
set_option maxRecDepth 100000
set_option linter.unusedVariables false
set_option linter.unusedSimpArgs false
/-- errors.As(nil, target). -/
theorem as_nil (t : Value) (w : World) :
    Calls Tryz.prog 202 #[.nilIface, t] w fun e w' => e = .returned (.bool false) ∧ w' = w := by
  go_enter Tryz.func202, Tryz.ntmps202
  go_wp2
  go_ret
  exact ⟨rfl, rfl⟩

/-! ### CLOSED FACTS ON THE MODEL's ENTRIES FOR internal/reflectlite, at this program's types: 25: *p.E · 27: **p.E · 23: error · 45: reflectlite's rtype · 1: how many package-level variables the dump has -/
theorem rl_valueOf27 (t : Addr) (w : World) : (ReflectliteValue.unpack (.iface 277 (.pointer (some t)))).run Tryz.prog w
    = .ok (.agg #[.pointer (some ⟨1, 277, none⟩), .pointer (some ⟨w.heap.size, 0, none⟩), .int .u64 150]) (w.alloc (.cells #[.pointer (some t)] 277)) := by kernel_rfl
theorem rl_type27 (a : Addr) (w : World) : (ReflectliteValue.methodAny (ReflectliteValue.valueError "reflectlite.Value.Type" 0) (fun t _ _ _ => ReflectliteType.toType t) #[.agg #[.pointer (some ⟨1, 277, none⟩), .pointer (some a), .int .u64 150]]).run Tryz.prog w
    = .ok (.iface 326 (.agg #[.pointer (some ⟨1, 277, none⟩)])) w := by kernel_rfl
theorem rl_methodKind (h : Value) (w : World) : (Go.method 488 326 (.agg #[h]) "Kind").run Tryz.prog w = .ok (244, h) w := by kernel_rfl
theorem rl_kind27 (w : World) : ((ReflectliteType.abiMethod fun t => (fun a : Nat => Value.int IntKind.u8 (a : Int)) <$> Rtype.kind t) #[.pointer (some ⟨1, 277, none⟩)]).run Tryz.prog w = .ok (.int .u8 22) w := by kernel_rfl
theorem rl_kind25 (w : World) : ((ReflectliteType.abiMethod fun t => (fun a : Nat => Value.int IntKind.u8 (a : Int)) <$> Rtype.kind t) #[.pointer (some ⟨1, 273, none⟩)]).run Tryz.prog w = .ok (.int .u8 22) w := by kernel_rfl

/-! ### THE ENTRIES THAT READ OR WRITE MEMORY: laws with a premise on the cell (after Derived/Lib/ReflectliteSlice.lean's manner: each unfolding a lemma of its own, by rfl) -/
theorem rlm (z : Sem Value) (f : TypeId → Addr → Nat → Nat → Sem Value) (v : Value) :
    ReflectliteValue.method z f #[v] = (do match ← ReflectliteValue.parts v with | none => z | some (t, a, fl) => f t a fl (fl % 32)) := rfl
theorem rl_parts27 (a : Addr) (w : World) : (ReflectliteValue.parts (.agg #[.pointer (some ⟨1, 277, none⟩), .pointer (some a), .int .u64 150])).run Tryz.prog w = .ok (some (277, a, 150)) w := by kernel_rfl
/-- (Value).IsNil at the Value of a **p.E that is not nil. -/
theorem rl_isNil27 (a p : Addr) (W : World) (ha : W.cell? a = some (.pointer (some p))) :
    (ReflectliteValue.method (ReflectliteValue.valueError "reflectlite.Value.IsNil" 0) ReflectliteValue.isNil #[.agg #[.pointer (some ⟨1, 277, none⟩), .pointer (some a), .int .u64 150]]).run Tryz.prog W = .ok (.bool false) W := by
  rw [rlm]
  simp only [Sem.run_bind, rl_parts27, Result.andThen]
  simp [ReflectliteValue.isNil, loadVar, isAgg, underlying, Tryz.underlying277, ha, Result.andThen]

theorem rl_methodElem (h : Value) (w : World) : (Go.method 488 326 (.agg #[h]) "Elem").run Tryz.prog w = .ok (292, .agg #[h]) w := by kernel_rfl
theorem rl_methodImplements (h : Value) (w : World) : (Go.method 488 326 (.agg #[h]) "Implements").run Tryz.prog w = .ok (293, .agg #[h]) w := by kernel_rfl
theorem rl_methodAssignableTo (h : Value) (w : World) : (Go.method 488 326 (.agg #[h]) "AssignableTo").run Tryz.prog w = .ok (290, .agg #[h]) w := by kernel_rfl
theorem rl_elem27 (w : World) : (ReflectliteType.method ReflectliteType.elem #[.agg #[.pointer (some ⟨1, 277, none⟩)]]).run Tryz.prog w = .ok (.iface 326 (.agg #[.pointer (some ⟨1, 273, none⟩)])) w := by kernel_rfl
theorem rl_implements25 (w : World) : (ReflectliteType.relation "Implements" ReflectliteType.implements_ #[.agg #[.pointer (some ⟨1, 273, none⟩)], .iface 326 (.agg #[.pointer (some ⟨1, 238, none⟩)])]).run Tryz.prog w = .ok (.bool true) w := by kernel_rfl
theorem rl_typeOf25 (v : Value) (w : World) : (ReflectliteType.typeOf #[.iface 273 v]).run Tryz.prog w = .ok (.iface 326 (.agg #[.pointer (some ⟨1, 273, none⟩)])) w := by kernel_rfl
theorem rl_assignable25 (w : World) : (ReflectliteType.relation "AssignableTo" ReflectliteType.assignableTo #[.agg #[.pointer (some ⟨1, 273, none⟩)], .iface 326 (.agg #[.pointer (some ⟨1, 273, none⟩)])]).run Tryz.prog w = .ok (.bool true) w := by kernel_rfl
theorem rl_valueOf25 (e : Addr) (w : World) : (ReflectliteValue.unpack (.iface 273 (.pointer (some e)))).run Tryz.prog w
    = .ok (.agg #[.pointer (some ⟨1, 273, none⟩), .pointer (some ⟨w.heap.size, 0, none⟩), .int .u64 150]) (w.alloc (.cells #[.pointer (some e)] 273)) := by kernel_rfl

theorem rl_elemOf27 (w : World) : (Rtype.elem? 277).run Tryz.prog w = .ok (some 273) w := by kernel_rfl
theorem rl_mk25 (p : Addr) (w : World) : (ReflectliteValue.mk 273 p ReflectliteValue.flagAddr).run Tryz.prog w = .ok (.agg #[.pointer (some ⟨1, 273, none⟩), .pointer (some p), .int .u64 406]) w := by kernel_rfl
/-- (Value).Elem at the Value of a **p.E that is not nil: the Value of the *p.E variable that it points to, addressable. -/
theorem rl_elemV27 (a p : Addr) (W : World) (ha : W.cell? a = some (.pointer (some p))) :
    (ReflectliteValue.method (ReflectliteValue.valueError "reflectlite.Value.Elem" 0) ReflectliteValue.elem #[.agg #[.pointer (some ⟨1, 277, none⟩), .pointer (some a), .int .u64 150]]).run Tryz.prog W
      = .ok (.agg #[.pointer (some ⟨1, 273, none⟩), .pointer (some p), .int .u64 406]) W := by
  rw [rlm]
  simp only [Sem.run_bind, rl_parts27, Result.andThen]
  simp [ReflectliteValue.elem, loadVar, isAgg, underlying, Tryz.underlying277, ha, Result.andThen, rl_elemOf27, rl_mk25]
theorem rls (v x : Value) : ReflectliteValue.set #[v, x] = (do
    let (some (dst, a, fl), some (src, b, _)) := (← ReflectliteValue.parts v, ← ReflectliteValue.parts x)
      | unsupported (.noEntry "extern/(internal/reflectlite.Value).Set.zeroValue")
    if fl / ReflectliteValue.flagAddr % 2 == 0 then unsupported (.noEntry "extern/(internal/reflectlite.Value).Set.unaddressable")
    let val ← loadVar src b
    if ← Rtype.directlyAssignable dst src then storeVar dst a val
    else if ← Rtype.implements dst src then
      if (← Rtype.kind src) == 20 then
        match val with
        | .nilIface => unsupported (.noEntry "extern/reflectlite: a nil value of one interface type handed on as a value of another")
        | _ => storeVar dst a val
      else storeVar dst a (.iface src val)
    else panicString ("reflectlite.Set: value of type " ++ (← Rtype.spelt src) ++ " is not assignable to type " ++ (← Rtype.spelt dst))
    pure (.tuple #[])) := rfl
theorem rl_parts25a (a : Addr) (w : World) : (ReflectliteValue.parts (.agg #[.pointer (some ⟨1, 273, none⟩), .pointer (some a), .int .u64 406])).run Tryz.prog w = .ok (some (273, a, 406)) w := by kernel_rfl
theorem rl_parts25 (a : Addr) (w : World) : (ReflectliteValue.parts (.agg #[.pointer (some ⟨1, 273, none⟩), .pointer (some a), .int .u64 150])).run Tryz.prog w = .ok (some (273, a, 150)) w := by kernel_rfl
theorem rl_direct25 (w : World) : (Rtype.directlyAssignable 273 273).run Tryz.prog w = .ok true w := by kernel_rfl
theorem rl_size25 (w : World) : (sizeOf 273).run Tryz.prog w = .ok 1 w := by kernel_rfl
/-- (Value).Set: the *p.E variable at 'ta' gets what the Value's own variable 'b' holds. -/
theorem rl_set25 (ta b e : Addr) (old : Value) (W : World) (hb : W.cell? b = some (.pointer (some e))) (ht : W.cell? ta = some old) (hf : W.frozen? ta = false) :
    (ReflectliteValue.set #[.agg #[.pointer (some ⟨1, 273, none⟩), .pointer (some ta), .int .u64 406], .agg #[.pointer (some ⟨1, 273, none⟩), .pointer (some b), .int .u64 150]]).run Tryz.prog W
      = .ok (.tuple #[]) (W.setCell ta (.pointer (some e))) := by
  rw [rls]
  simp only [Sem.run_bind, rl_parts25a, rl_parts25, Result.andThen]
  simp [ReflectliteValue.flagAddr, loadVar, isAgg, underlying, Tryz.underlying273, hb, Result.andThen, rl_direct25, storeVar, Value.cells, storeCells, Addr.add]
  rw [run_store Tryz.prog W ta _ _ (by rfl)]
  simp [ht, hf]

set_option maxHeartbeats 4000000 in
theorem as_hit (e t : Addr) (old : Value) (w : World) (hg : w.cell? ⟨0, 0, none⟩ = some (.iface 326 (.agg #[.pointer (some ⟨1, 238, none⟩)]))) (ht0 : w.cell? t = some old) (hf0 : w.frozen? t = false) :
    Calls Tryz.prog 202 #[.iface 273 (.pointer (some e)), .iface 277 (.pointer (some t))] w fun ev w' => ev = .returned (.bool true) ∧ w' = ((((w.alloc (.cells #[.pointer (some t)] 277)).alloc (.cells #[.pointer (some ⟨1, 277, none⟩), .pointer (some ⟨w.heap.size, 0, none⟩), .int .u64 150] 304)).alloc (.cells #[.pointer (some ⟨1, 277, none⟩), .pointer (some ⟨w.heap.size, 0, none⟩), .int .u64 150] 304)).alloc (.cells #[.pointer (some e)] 273)).setCell t (.pointer (some e)) := by
  have h6 := @run_callFunc_extern Tryz.prog 216 _ (fun args => ReflectliteValue.unpack (args.getD 0 (.tuple #[]))) Tryz.func216 (by kernel_rfl) (by kernel_rfl) (by kernel_rfl) (by kernel_rfl)
  have h7 := @run_callFunc_extern Tryz.prog 217 _ (ReflectliteValue.methodAny (ReflectliteValue.valueError "reflectlite.Value.Type" 0) (fun t _ _ _ => ReflectliteType.toType t)) Tryz.func217 (by kernel_rfl) (by kernel_rfl) (by kernel_rfl) (by kernel_rfl)
  have h8 := @run_callFunc_extern Tryz.prog 218 _ (ReflectliteValue.method (ReflectliteValue.valueError "reflectlite.Value.IsNil" 0) ReflectliteValue.isNil) Tryz.func218 (by kernel_rfl) (by kernel_rfl) (by kernel_rfl) (by kernel_rfl)
  have h27 := @run_callFunc_extern Tryz.prog 244 _ (ReflectliteType.abiMethod fun t => do pure (.int .u8 (← Rtype.kind t))) Tryz.func244 (by kernel_rfl) (by kernel_rfl) (by kernel_rfl) (by kernel_rfl)
  have h37 := @run_callFunc_extern Tryz.prog 292 _ (ReflectliteType.method ReflectliteType.elem) Tryz.func292 (by kernel_rfl) (by kernel_rfl) (by kernel_rfl) (by kernel_rfl)
  have h38 := @run_callFunc_extern Tryz.prog 293 _ (ReflectliteType.relation "Implements" ReflectliteType.implements_) Tryz.func293 (by kernel_rfl) (by kernel_rfl) (by kernel_rfl) (by kernel_rfl)
  have h10 := @run_callFunc_extern Tryz.prog 227 _ ReflectliteType.typeOf Tryz.func227 (by kernel_rfl) (by kernel_rfl) (by kernel_rfl) (by kernel_rfl)
  have h35 := @run_callFunc_extern Tryz.prog 290 _ (ReflectliteType.relation "AssignableTo" ReflectliteType.assignableTo) Tryz.func290 (by kernel_rfl) (by kernel_rfl) (by kernel_rfl) (by kernel_rfl)
  have h11 := @run_callFunc_extern Tryz.prog 228 _ (ReflectliteValue.method (ReflectliteValue.valueError "reflectlite.Value.Elem" 0) ReflectliteValue.elem) Tryz.func228 (by kernel_rfl) (by kernel_rfl) (by kernel_rfl) (by kernel_rfl)
  have h12 := @run_callFunc_extern Tryz.prog 229 _ ReflectliteValue.set Tryz.func229 (by kernel_rfl) (by kernel_rfl) (by kernel_rfl) (by kernel_rfl)
  have tO := rl_typeOf25
  have mA := rl_methodAssignableTo
  have a25 := rl_assignable25
  have v25 := rl_valueOf25
  have f6 := rl_valueOf27
  have f7 := rl_type27
  have mK := rl_methodKind
  have mE := rl_methodElem
  have mI := rl_methodImplements
  have k27 := rl_kind27
  have k25 := rl_kind25
  have e27 := rl_elem27
  have i25 := rl_implements25
  have n8 := rl_isNil27 ⟨w.heap.size, 0, none⟩ t ((w.alloc (.cells #[.pointer (some t)] 277)).alloc (.cells #[.pointer (some ⟨1, 277, none⟩), .pointer (some ⟨w.heap.size, 0, none⟩), .int .u64 150] 304)) (by simp)
  have hlt : 0 < w.heap.size := by
    rcases Nat.eq_zero_or_pos w.heap.size with h0 | h
    · simp [World.cell?, h0] at hg
    · exact h
  have hg2 : ((w.alloc (.cells #[.pointer (some t)] 277)).alloc (.cells #[.pointer (some ⟨1, 277, none⟩), .pointer (some ⟨w.heap.size, 0, none⟩), .int .u64 150] 304)).cell? ⟨0, 0, none⟩ = some (.iface 326 (.agg #[.pointer (some ⟨1, 238, none⟩)])) := by
    rw [World.cell?_alloc_lt _ _ ⟨0, 0, none⟩ (by simp), World.cell?_alloc_lt _ _ ⟨0, 0, none⟩ hlt]; exact hg
  have htl : t.block < w.heap.size := by
    rcases Nat.lt_or_ge t.block w.heap.size with h | h
    · exact h
    · simp [World.cell?, Array.getElem?_eq_none h] at ht0
  have el := rl_elemV27 ⟨w.heap.size, 0, none⟩ t (((w.alloc (.cells #[.pointer (some t)] 277)).alloc (.cells #[.pointer (some ⟨1, 277, none⟩), .pointer (some ⟨w.heap.size, 0, none⟩), .int .u64 150] 304)).alloc (.cells #[.pointer (some ⟨1, 277, none⟩), .pointer (some ⟨w.heap.size, 0, none⟩), .int .u64 150] 304)) (by rw [World.cell?_alloc_lt _ _ ⟨w.heap.size, 0, none⟩ (by simp; omega)]; simp)
  have st := rl_set25 t ⟨w.heap.size + 1 + 1 + 1, 0, none⟩ e old ((((w.alloc (.cells #[.pointer (some t)] 277)).alloc (.cells #[.pointer (some ⟨1, 277, none⟩), .pointer (some ⟨w.heap.size, 0, none⟩), .int .u64 150] 304)).alloc (.cells #[.pointer (some ⟨1, 277, none⟩), .pointer (some ⟨w.heap.size, 0, none⟩), .int .u64 150] 304)).alloc (.cells #[.pointer (some e)] 273))
    (by rw [World.cell?_alloc_at _ _ _ _ (by simp)]; rfl)
    (by rw [World.cell?_alloc_lt _ _ t (by simp; omega), World.cell?_alloc_lt _ _ t (by simp; omega), World.cell?_alloc_lt _ _ t (by simp; omega), World.cell?_alloc_lt _ _ t htl]; exact ht0)
    (by rw [World.frozen?_alloc_old _ _ t (by simp; omega), World.frozen?_alloc_old _ _ t (by simp; omega), World.frozen?_alloc_old _ _ t (by simp; omega), World.frozen?_alloc_old _ _ t (Nat.ne_of_lt htl)]; exact hf0)
  go_enter Tryz.func202, Tryz.ntmps202
  go_wp2
  refine wp_loop_rounds 1 ?_
  rw [rounds_succ]
  go_wp2
  go_ret
  exact ⟨rfl, rfl⟩

end Go.Vc
end

section
namespace Go.Vc
/-! ### names and numbers -/
def nmByte (c : UInt8) : Bool := (decide ((c.toNat : Int) ≥ 97) && decide ((c.toNat : Int) ≤ 122)) || (decide ((c.toNat : Int) ≥ 48) && decide ((c.toNat : Int) ≤ 57)) || ((c.toNat : Int) == 45)
def nameOk (s : Bs) : Bool := decide (1 ≤ s.length) && (decide (s.length ≤ 16) && s.all nmByte)
def inR (n a b : Int) : Bool := decide (n ≥ a) && decide (n ≤ b)
theorem nameOk_no {s : Bs} (h : (!inR (s.length : Int) 1 16) = true) : false = nameOk s := by
  simp only [inR, Bool.not_eq_true', Bool.and_eq_false_iff, decide_eq_false_iff_not] at h
  unfold nameOk
  rcases h with h | h
  · rw [decide_eq_false (by omega)]; rfl
  · rw [decide_eq_false (p := s.length ≤ 16) (by omega)]; simp
theorem nameOk_yes {s : Bs} (h : (!inR (s.length : Int) 1 16) = false) : nameOk s = (s.drop 0).all nmByte := by
  simp only [inR, Bool.not_eq_false', Bool.and_eq_true, decide_eq_true_eq] at h
  unfold nameOk
  rw [decide_eq_true (by omega), decide_eq_true (p := s.length ≤ 16) (by omega)]
  rfl

/-! ### ascending lists -/
def lessO : Option Bs → Bs → Bool
  | none, _ => true
  | some q, x => Op.bytesLess q x
def ascK {α : Type} (key : α → Bs) : Option Bs → List α → Bool
  | _, [] => true
  | p, x :: xs => (nameOk (key x) && lessO p (key x)) && ascK key (some (key x)) xs
def prevK {α : Type} (key : α → Bs) (xs : List α) : Nat → Option Bs
  | 0 => none
  | j + 1 => (xs[j]?).map key
section
variable {α : Type} {key : α → Bs} {xs : List α} {i : Nat}
theorem asc_step (h : i < xs.length) : ascK key (prevK key xs i) (xs.drop i) = ((nameOk (key xs[i]) && lessO (prevK key xs i) (key xs[i])) && ascK key (prevK key xs (i + 1)) (xs.drop (i + 1))) := by
  rw [List.drop_eq_getElem_cons h]
  simp only [ascK, prevK, List.getElem?_eq_getElem h, Option.map_some]
theorem asc_end {p : Option Bs} (h : xs.length ≤ i) : ascK key p (xs.drop i) = true := by
  rw [List.drop_of_length_le h]; rfl
theorem asc_name (h : i < xs.length) (hn : (!nameOk (key xs[i])) = true) : false = ascK key (prevK key xs i) (xs.drop i) := by
  rw [asc_step h, show nameOk (key xs[i]) = false from by simpa using hn]; rfl
theorem asc_less (h : i < xs.length) (h0 : 0 < i) (hn : (!Op.bytesLess (key (xs[i - 1]'(by omega))) (key xs[i])) = true) : false = ascK key (prevK key xs i) (xs.drop i) := by
  obtain ⟨j, rfl⟩ : ∃ j, i = j + 1 := ⟨i - 1, by omega⟩
  rw [asc_step h]
  have : lessO (prevK key xs (j + 1)) (key xs[j + 1]) = false := by
    simp only [prevK, List.getElem?_eq_getElem (show j < xs.length by omega), Option.map_some, lessO]
    simpa using hn
  rw [this]; simp
theorem asc_ok (h : i < xs.length) (hn : (!nameOk (key xs[i])) = false) (hl : i = 0 ∨ ∃ h0 : 0 < i, (!Op.bytesLess (key (xs[i - 1]'(by omega))) (key xs[i])) = false) :
    ascK key (prevK key xs i) (xs.drop i) = ascK key (prevK key xs (i + 1)) (xs.drop (i + 1)) := by
  rw [asc_step h, show nameOk (key xs[i]) = true from by simpa using hn]
  rcases hl with rfl | ⟨h0, hl⟩
  · rfl
  · obtain ⟨j, rfl⟩ : ∃ j, i = j + 1 := ⟨i - 1, by omega⟩
    have : lessO (prevK key xs (j + 1)) (key xs[j + 1]) = true := by
      simp only [prevK, List.getElem?_eq_getElem (show j < xs.length by omega), Option.map_some, lessO]
      simpa using hl
    rw [this]; rfl
end
def asc (xs : List Bs) : Bool := ascK id none xs
theorem gt0 {i : Nat} (h : decide ((i : Int) > 0) = true) : 0 < i := by have := of_decide_eq_true h; omega
theorem le0 {i : Nat} (h : decide ((i : Int) > 0) = false) : i = 0 := by have := of_decide_eq_false h; omega

/-! ### decimals -/
def numAcc (n : Int) : Bs → Option Int
  | [] => some n
  | c :: s => bif (decide ((c.toNat : Int) < 48) || decide ((c.toNat : Int) > 57)) then none else numAcc (n * 10 + (c.toNat : Int) - 48) s
def numOf (s : Bs) : Option Int := bif (!inR (s.length : Int) 1 7 || (decide ((s.length : Int) > 1) && ((s.headD 0).toNat : Int) == 48)) then none else numAcc 0 s
theorem numAcc_step {s : Bs} {i : Nat} {n : Int} (h : i < s.length) : numAcc n (s.drop i) = bif (decide ((s[i].toNat : Int) < 48) || decide ((s[i].toNat : Int) > 57)) then none else numAcc (n * 10 + (s[i].toNat : Int) - 48) (s.drop (i + 1)) := by
  rw [List.drop_eq_getElem_cons h]; rfl
theorem numAcc_end {s : Bs} {i : Nat} {n : Int} (h : s.length ≤ i) : numAcc n (s.drop i) = some n := by
  rw [List.drop_of_length_le h]; rfl
/-- the accumulator stays small -/
theorem num_room {n : Int} {i : Nat} {c : UInt8} (hn : 0 ≤ n ∧ n < 10 ^ i) (hi : i < 7) (h1 : decide ((c.toNat : Int) < 48) = false) (h2 : decide ((c.toNat : Int) > 57) = false) :
    IntKind.i64.wrap (IntKind.i64.wrap (IntKind.i64.wrap (n * 10) + IntKind.i64.wrap (c.toNat : Int)) - 48) = n * 10 + (c.toNat : Int) - 48 ∧ 0 ≤ n * 10 + (c.toNat : Int) - 48 ∧ n * 10 + (c.toNat : Int) - 48 < 10 ^ (i + 1) := by
  have h1 := of_decide_eq_false h1
  have h2 := of_decide_eq_false h2
  have hp : (10 : Int) ^ (i + 1) = 10 ^ i * 10 := by rw [Int.pow_succ]
  have hle : (10 : Int) ^ i ≤ 10 ^ 6 := by
    have : (10 : Nat) ^ i ≤ 10 ^ 6 := Nat.pow_le_pow_right (by decide) (by omega)
    have h3 : ((10 ^ i : Nat) : Int) ≤ ((10 ^ 6 : Nat) : Int) := Int.ofNat_le.2 this
    simpa using h3
  simp only [IntKind.wrap_i64]
  generalize (10 : Int) ^ i = p at *
  refine ⟨by omega, by omega, by omega⟩
theorem num_small {s : Bs} (h : (!inR (s.length : Int) 1 7) = false) : 0 < s.length ∧ s.length ≤ 7 := by
  simp only [inR, Bool.not_eq_false', Bool.and_eq_true, decide_eq_true_eq] at h
  omega
theorem headD_eq {s : Bs} (h : 0 < s.length) : s.headD 0 = s[0] := by
  cases s with
  | nil => simp at h
  | cons a s => rfl
theorem numAcc_nonneg : ∀ {s : Bs} {n m : Int}, 0 ≤ n → numAcc n s = some m → 0 ≤ m
  | [], n, m, hn, h => by simp only [numAcc, Option.some.injEq] at h; omega
  | c :: s, n, m, hn, h => by
    simp only [numAcc] at h
    cases hc : (decide ((c.toNat : Int) < 48) || decide ((c.toNat : Int) > 57))
    · rw [hc] at h
      simp only [Bool.or_eq_false_iff, decide_eq_false_iff_not] at hc
      exact numAcc_nonneg (by omega) h
    · rw [hc] at h; cases h
theorem numOf_nonneg {s : Bs} {m : Int} (h : numOf s = some m) : 0 ≤ m := by
  unfold numOf at h
  generalize (!inR (s.length : Int) 1 7 || (decide ((s.length : Int) > 1) && ((s.headD 0).toNat : Int) == 48)) = b at h
  cases b
  · exact numAcc_nonneg (Int.le_refl 0) h
  · cases h
def numF (s : Bs) : Int := match numOf s with | some n => n | none => -1
def numD (s : Bs) : Int := match numOf s with | some n => n | none => 0
theorem numOf_no {s : Bs} (h : (!inR (s.length : Int) 1 7) = true) : numOf s = none := by unfold numOf; rw [h]; rfl
theorem numOf_zero {s : Bs} (h : (!inR (s.length : Int) 1 7) = false) (h1 : decide ((s.length : Int) > 1) = true) (h2 : (((s[0]'((num_small h).1)).toNat : Int) == 48) = true) : numOf s = none := by
  unfold numOf; rw [h, h1, headD_eq (num_small h).1, h2]; rfl
theorem numOf_go {s : Bs} (h : (!inR (s.length : Int) 1 7) = false) (h1 : decide ((s.length : Int) > 1) = false ∨ (((s[0]'((num_small h).1)).toNat : Int) == 48) = false) : numOf s = numAcc 0 (s.drop 0) := by
  unfold numOf; rw [h, headD_eq (num_small h).1]
  rcases h1 with h1 | h1
  · rw [h1]; rfl
  · rw [h1, Bool.and_false]; rfl
/-! ### fields -/
def txByte (c : UInt8) : Bool := inR (c.toNat : Int) 33 126
def fitsF (f : GateField) (v : Bs) : Bool :=
  bif f.kind == 1 then (match numOf v with | some n => inR n f.least f.most | none => false)
  else bif f.kind == 2 then !(v == []) && f.words.any (· == v)
  else bif f.kind == 3 then v.all txByte && (!(v == []) && inR (v.length : Int) f.least f.most)
  else bif f.kind == 4 then nameOk v else false
def bareF (f : GateField) : Bool :=
  !((!(f.kind == 1 || f.kind == 3) && (f.least != 0 || f.most != 0)) || (f.kind != 1 && !(f.weighs == []))) && (!(f.kind != 2 && decide ((f.words.length : Int) > 0)) && (f.kind == 4 || (f.to_ == [] && f.role == 0)))
theorem wrap_byte (c : UInt8) : IntKind.i64.wrap (c.toNat : Int) = (c.toNat : Int) := by
  have := c.toNat_lt
  rw [IntKind.wrap_i64]; omega
def sound1 (f : GateField) : Bool := decide (f.least ≥ 0) && (decide (f.least ≤ f.most) && (decide (f.most ≤ 1000000) && (f.weighs == [] || nameOk f.weighs)))
def sound2 (f : GateField) : Bool := inR (f.words.length : Int) 1 6 && asc f.words
def sound3 (f : GateField) : Bool := decide (f.least ≥ 1) && (decide (f.least ≤ f.most) && decide (f.most ≤ 40))
def sound4 (kinds : List Bs) (f : GateField) : Bool := kinds.any (· == f.to_) && (inR f.role 1 3 && (f.default_ == [] && (f.role != 2 || !f.must)))
def soundF (kinds : List Bs) (f : GateField) : Bool :=
  bif f.kind == 1 then sound1 f else bif f.kind == 2 then sound2 f else bif f.kind == 3 then sound3 f else bif f.kind == 4 then sound4 kinds f else false
def clean1 (f : GateField) : Bool := (f.words.length : Int) == 0 && (f.to_ == [] && f.role == 0)
def clean2 (f : GateField) : Bool := f.least == 0 && (f.most == 0 && (f.to_ == [] && (f.role == 0 && f.weighs == [])))
def clean3 (f : GateField) : Bool := (f.words.length : Int) == 0 && (f.to_ == [] && (f.role == 0 && f.weighs == []))
def clean4 (f : GateField) : Bool := f.least == 0 && (f.most == 0 && ((f.words.length : Int) == 0 && f.weighs == []))
theorem len_zero (n : Nat) : (!decide ((n : Int) > 0)) = ((n : Int) == 0) := by
  cases n with
  | zero => rfl
  | succ n => simp; omega
theorem bare1 {f : GateField} (h : f.kind = 1) : bareF f = clean1 f := by
  simp only [bareF, clean1, h, ← len_zero]
  generalize decide ((f.words.length : Int) > 0) = a
  generalize (f.to_ == []) = b
  generalize (f.role == 0) = c
  cases a <;> cases b <;> cases c <;> simp
theorem bare2 {f : GateField} (h : f.kind = 2) : bareF f = clean2 f := by
  simp only [bareF, clean2, h, bne]
  generalize (f.least == 0) = a
  generalize (f.most == 0) = a'
  generalize (f.to_ == []) = b
  generalize (f.role == 0) = c
  generalize (f.weighs == []) = d
  cases a <;> cases a' <;> cases b <;> cases c <;> cases d <;> simp
theorem bare3 {f : GateField} (h : f.kind = 3) : bareF f = clean3 f := by
  simp only [bareF, clean3, h, ← len_zero]
  generalize decide ((f.words.length : Int) > 0) = a
  generalize (f.to_ == []) = b
  generalize (f.role == 0) = c
  generalize (f.weighs == []) = d
  cases a <;> cases b <;> cases c <;> cases d <;> simp
theorem bare4 {f : GateField} (h : f.kind = 4) : bareF f = clean4 f := by
  simp only [bareF, clean4, h, bne, ← len_zero]
  generalize decide ((f.words.length : Int) > 0) = b
  generalize (f.least == 0) = a
  generalize (f.most == 0) = a'
  generalize (f.weighs == []) = d
  cases a <;> cases a' <;> cases b <;> cases d <;> simp
def fieldOkF (kinds : List Bs) (f : GateField) : Bool := nameOk f.name && (bareF f && ((f.default_ == [] || fitsF f f.default_) && soundF kinds f))
def flds (kinds : List Bs) : List Bs → List GateField → Bool
  | _, [] => true
  | pre, f :: fs => !(pre.any (· == f.name)) && (fieldOkF kinds f && flds kinds (pre ++ [f.name]) fs)
def shapeOkF (kinds : List Bs) (s : GateShape) : Bool := !decide ((s.fields.length : Int) > 6) && flds kinds [] s.fields
def shapesOk (l : List GateShape) : Bool := !decide ((l.length : Int) > 6) && (ascK (·.kind) none l && l.all (shapeOkF (l.map (·.kind))))
theorem flds_step {kinds : List Bs} {fs : List GateField} {k : Nat} (h : k < fs.length) : flds kinds ((fs.take k).map (·.name)) (fs.drop k) =
    (!(((fs.take k).map (·.name)).any (· == fs[k].name)) && (fieldOkF kinds fs[k] && flds kinds ((fs.take (k + 1)).map (·.name)) (fs.drop (k + 1)))) := by
  rw [List.drop_eq_getElem_cons h, List.take_succ_eq_append_getElem h, List.map_append]
  rfl
theorem flds_end {kinds pre : List Bs} {fs : List GateField} {k : Nat} (h : fs.length ≤ k) : flds kinds pre (fs.drop k) = true := by
  rw [List.drop_of_length_le h]; rfl
/-- the first place where something holds -/
def idxBy {α : Type} (p : α → Bool) : List α → Nat → Int
  | [], _ => -1
  | x :: xs, k => bif p x then (k : Int) else idxBy p xs (k + 1)
def idx {α : Type} (p : α → Bool) (xs : List α) : Int := idxBy p xs 0
section
variable {α : Type} {p : α → Bool} {xs : List α} {i : Nat}
theorem idxBy_step (h : i < xs.length) : idxBy p (xs.drop i) i = bif p xs[i] then (i : Int) else idxBy p (xs.drop (i + 1)) (i + 1) := by
  rw [List.drop_eq_getElem_cons h]; rfl
theorem idxBy_end (h : xs.length ≤ i) : idxBy p (xs.drop i) i = -1 := by
  rw [List.drop_of_length_le h]; rfl
theorem idxBy_spec : ∀ (xs : List α) (k : Nat), (idxBy p xs k = -1 ∧ xs.any p = false) ∨ (∃ j : Nat, ∃ h : j < xs.length, idxBy p xs k = ((k + j : Nat) : Int) ∧ p xs[j] = true ∧ xs.any p = true)
  | [], k => .inl ⟨rfl, rfl⟩
  | x :: xs, k => by
    cases hx : p x with
    | true => exact .inr ⟨0, by simp, by simp [idxBy, hx], by simpa using hx, by simp [hx]⟩
    | false =>
      rcases idxBy_spec xs (k + 1) with ⟨h1, h2⟩ | ⟨j, hj, h1, h2, h3⟩
      · exact .inl ⟨by simp [idxBy, hx, h1], by simp [hx, h2]⟩
      · exact .inr ⟨j + 1, by simp; omega, by simp only [idxBy, hx, cond_false, h1]; omega, by simpa using h2, by simp [hx, h3]⟩
theorem idx_neg (h : decide (idx p xs ≥ 0) = false) : idx p xs = -1 ∧ xs.any p = false := by
  have := of_decide_eq_false h
  rcases idxBy_spec (p := p) xs 0 with h1 | ⟨j, hj, h1, _⟩
  · exact h1
  · unfold idx at this; omega
theorem idx_pos (h : decide (idx p xs ≥ 0) = true) : ∃ j : Nat, ∃ h : j < xs.length, idx p xs = (j : Int) ∧ p xs[j] = true ∧ xs.any p = true := by
  have := of_decide_eq_true h
  rcases idxBy_spec (p := p) xs 0 with h1 | ⟨j, hj, h1, h2⟩
  · unfold idx at this; omega
  · exact ⟨j, hj, by unfold idx; omega, h2⟩
theorem idx_any : decide (idx p xs ≥ 0) = xs.any p := by
  cases h : decide (idx p xs ≥ 0) with
  | true => obtain ⟨j, _, _, _, h3⟩ := idx_pos h; exact h3.symm
  | false => exact (idx_neg h).2.symm
end
/-! ### mends -/
def plainF (fs : List GateField) (n : Bs) : Bool := decide (idx (·.name == n) fs ≥ 0) && (match fs[(idx (·.name == n) fs).toNat]? with | some f => f.kind != 4 | none => false)
def mendF (fs : List GateField) (m : GateMend) : Bool :=
  (plainF fs m.field && ((m.when_ == [] || plainF fs m.when_) && (m.from_ == [] || plainF fs m.from_))) &&
  (!((m.when_ == m.field) || ((m.from_ == m.field) || ((m.when_ == [] && !(m.is_ == [])) || ((m.put == []) == (m.from_ == []))))) &&
   (m.put == [] || (match fs[(idx (·.name == m.field) fs).toNat]? with | some f => fitsF f m.put | none => false)))
def mendOkF (shapes : List GateShape) (m : GateMend) : Bool := match shapes[(idx (·.kind == m.kind) shapes).toNat]? with
  | some s => decide (idx (·.kind == m.kind) shapes ≥ 0) && mendF s.fields m
  | none => false
theorem plain_pos {fs : List GateField} {n : Bs} {j : Nat} (hj : j < fs.length) (h : decide (idx (·.name == n) fs ≥ 0) = true) (e : idx (·.name == n) fs = (j : Int)) : plainF fs n = (fs[j].kind != 4) := by
  unfold plainF
  rw [h, e, Int.toNat_natCast, List.getElem?_eq_getElem hj]; rfl
theorem plain_neg {fs : List GateField} {n : Bs} (h : decide (idx (·.name == n) fs ≥ 0) = false) : plainF fs n = false := by
  unfold plainF
  rw [h]; rfl
end Go.Vc
end

section
namespace Go.Vc
open Go.Proofs
set_option maxRecDepth 100000
set_option pp.maxSteps 400
set_option pp.deepTerms false
set_option linter.unusedSimpArgs false
theorem s_l1In (a b c : Int) : Spec P 63 [.d (.int .i64 a), .d (.int .i64 b), .d (.int .i64 c)] (.d (.bool (inR a b c))) := by
  refine Spec.of_vc vcT vcM [.tmp 6] Tryz.func63 rfl rfl rfl rfl (fun hok => ?_)
  repeat refine And.intro rfl ?_
  refine And.intro (fun h => ?_) (fun h => ?_)
  all_goals (refine bd ?_; simp only [inR, h, Bool.true_and, Bool.false_and])
theorem s_l1Byte (c : UInt8) : Spec P 138 [.d (.int .u8 c.toNat)] (.d (.bool (nmByte c))) := by
  refine Spec.of_vc vcT vcM [.tmp 2] Tryz.func138 rfl rfl rfl rfl (fun hok => ?_)
  repeat' refine And.intro (fun h => ?_) (fun h => ?_)
  all_goals (refine bd ?_; simp only [nmByte, *, Bool.true_and, Bool.false_and, Bool.true_or, Bool.false_or])
theorem s_l1NameOk (s : Bs) : Spec P 90 [.d (.str s)] (.d (.bool (nameOk s))) := by
  refine Spec.of_vc vcT vcM [.tmp 2] Tryz.func90 rfl rfl rfl rfl (fun hok => ?_)
  have hs : s.length ≤ big := hok.1
  repeat refine And.intro rfl ?_
  refine Or.inl (Exists.intro _ (And.intro (s_l1In _ _ _) ?_))
  repeat refine And.intro rfl ?_
  refine And.intro (fun h => ?_) (fun h => ?_)
  · exact bd (nameOk_no h)
  repeat refine And.intro rfl ?_
  refine ⟨fun m l h => ∃ (i : Nat) , m = s.length - i ∧ i ≤ s.length ∧ (nameOk s = (s.drop i).all nmByte) ∧ l = [(0, .d (.str s)), (3, .d (.int .i64 i))] ∧ h = hp0,
    ⟨_, _, _, ⟨0, rfl, Nat.zero_le _, nameOk_yes h, rfl, rfl⟩, rfl, rfl, ⟨rfl, rfl, trivial⟩, trivial, trivial⟩, ?_⟩
  rintro m l hh ⟨i, rfl, hi, hr, rfl, rfl⟩
  repeat refine And.intro rfl ?_
  refine And.intro (fun h1 => ?_) (fun h1 => ?_)
  · have hlt : i < s.length := lt_str h1
    repeat refine And.intro rfl ?_
    refine ix_str (hlt) ?_
    repeat refine And.intro rfl ?_
    repeat refine And.intro rfl ?_
    refine Or.inl (Exists.intro _ (And.intro (s_l1Byte _) ?_))
    rw [all_step hlt] at hr
    repeat refine And.intro rfl ?_
    refine And.intro (fun h2 => ?_) (fun h2 => ?_)
    · refine bd ?_
      rw [hr, show nmByte s[i] = false from by simpa using h2]; rfl
    · repeat refine And.intro rfl ?_
      exact ⟨_, _, _, ⟨i + 1, rfl, hlt, by rw [hr, show nmByte s[i] = true from by simpa using h2]; rfl, rfl, rfl⟩, by omega, rfl, rfl, ⟨rfl, nd (wrap_succ hlt hs), trivial⟩, trivial, trivial⟩
  · refine bd ?_
    rw [hr, all_end (ge_str h1)]
theorem i_nameByte (c : UInt8) : Spec P 183 [.d (.int .u8 c.toNat)] (.d (.bool (nmByte c))) := by
  refine Spec.of_vc vcT vcM [.tmp 2] Tryz.func183 rfl rfl rfl rfl (fun hok => ?_)
  repeat' refine And.intro (fun h => ?_) (fun h => ?_)
  all_goals (refine bd ?_; simp only [nmByte, *, Bool.true_and, Bool.false_and, Bool.true_or, Bool.false_or])
theorem i_nameBytes (s : Bs) : Spec P 141 [.d (.str s)] (.d (.bool (s.all nmByte))) := by
  refine Spec.of_vc vcT vcM [.tmp 2] Tryz.func141 rfl rfl rfl rfl (fun hok => ?_)
  have hs : s.length ≤ big := hok.1
  repeat refine And.intro rfl ?_
  refine ⟨fun m l h => ∃ (i : Nat) , m = s.length - i ∧ i ≤ s.length ∧ (s.all nmByte = (s.drop i).all nmByte) ∧ l = [(0, .d (.str s)), (5, .d (.int .i64 s.length)), (6, .d (.int .i64 i))] ∧ h = hp0,
    ⟨_, _, _, ⟨0, rfl, Nat.zero_le _, rfl, rfl, rfl⟩, rfl, rfl, ⟨rfl, rfl, rfl, trivial⟩, trivial, trivial⟩, ?_⟩
  rintro m l hh ⟨i, rfl, hi, hr, rfl, rfl⟩
  repeat refine And.intro rfl ?_
  refine And.intro (fun h1 => ?_) (fun h1 => ?_)
  · have hlt : i < s.length := lt_str h1
    repeat refine And.intro rfl ?_
    refine ix_str (hlt) ?_
    repeat refine And.intro rfl ?_
    repeat refine And.intro rfl ?_
    refine Or.inl (Exists.intro _ (And.intro (i_nameByte _) ?_))
    rw [all_step hlt] at hr
    repeat refine And.intro rfl ?_
    refine And.intro (fun h2 => ?_) (fun h2 => ?_)
    · refine bd ?_
      rw [hr, show nmByte s[i] = false from by simpa using h2]; rfl
    · repeat refine And.intro rfl ?_
      exact ⟨_, _, _, ⟨i + 1, rfl, hlt, by rw [hr, show nmByte s[i] = true from by simpa using h2]; rfl, rfl, rfl⟩, by omega, rfl, rfl, ⟨rfl, rfl, nd (wrap_succ hlt hs), trivial⟩, trivial, trivial⟩
  · refine bd ?_
    rw [hr, all_end (ge_str h1)]
theorem dec_len1 {s : Bs} : decide ((s.length : Int) ≥ 1) = decide (1 ≤ s.length) := by by_cases h : 1 ≤ s.length <;> simp [h] <;> omega
theorem dec_len16 {s : Bs} : decide ((s.length : Int) ≤ 16) = decide (s.length ≤ 16) := by by_cases h : s.length ≤ 16 <;> simp [h] <;> omega
theorem i_isName (s : Bs) : Spec P 93 [.d (.str s)] (.d (.bool (nameOk s))) := by
  refine Spec.of_vc vcT vcM [.tmp 2] Tryz.func93 rfl rfl rfl rfl (fun hok => ?_)
  repeat refine And.intro rfl ?_
  refine And.intro (fun h => ?_) (fun h => ?_)
  · repeat refine And.intro rfl ?_
    refine And.intro (fun h2 => ?_) (fun h2 => ?_)
    · repeat refine And.intro rfl ?_
      refine Or.inl (Exists.intro _ (And.intro (i_nameBytes _) ?_))
      refine bd ?_
      unfold nameOk
      rw [← dec_len1, ← dec_len16, h, h2]; rfl
    · refine bd ?_
      unfold nameOk
      rw [← dec_len1, ← dec_len16, h, h2]; rfl
  · refine bd ?_
    unfold nameOk
    rw [← dec_len1, ← dec_len16, h]; rfl
end Go.Vc
end

section
namespace Go.Vc
open Go.Proofs
set_option maxRecDepth 100000
set_option pp.maxSteps 400
set_option pp.deepTerms false
set_option linter.unusedSimpArgs false
set_option linter.unusedVariables false
theorem s_l1Ascending (xs : List Bs) : Spec P 151 [.d (lS xs)] (.d (.bool (asc xs))) := by
  refine Spec.of_vc vcT vcM [.tmp 2] Tryz.func151 rfl rfl rfl rfl (fun hok => ?_)
  have hs : xs.length ≤ big := len_map hok.1.1
  repeat refine And.intro rfl ?_
  refine ⟨fun m l h => ∃ (i : Nat) , m = xs.length - i ∧ i ≤ xs.length ∧ (asc xs = ascK id (prevK id xs i) (xs.drop i)) ∧ l = [(0, .d (lS xs)), (3, .d (.int .i64 i))] ∧ h = hp0,
    ⟨_, _, _, ⟨0, rfl, Nat.zero_le _, rfl, rfl, rfl⟩, rfl, rfl, ⟨rfl, rfl, trivial⟩, trivial, trivial⟩, ?_⟩
  rintro m l hh ⟨i, rfl, hi, hr, rfl, rfl⟩
  repeat refine And.intro rfl ?_
  refine And.intro (fun h1 => ?_) (fun h1 => ?_)
  · have hlt : i < xs.length := lt_map h1
    repeat refine And.intro rfl ?_
    refine And.intro (by kernel_rfl) ?_
    repeat refine And.intro rfl ?_
    repeat refine And.intro rfl ?_
    refine ix_at (e := eB) (xs := xs) (hlt) rfl ?_
    repeat refine And.intro rfl ?_
    repeat refine And.intro rfl ?_
    refine Or.inl (Exists.intro _ (And.intro (s_l1NameOk _) ?_))
    repeat refine And.intro rfl ?_
    refine And.intro (fun h2 => ?_) (fun h2 => ?_)
    · repeat refine And.intro rfl ?_
      refine And.intro (fun h3 => ?_) (fun h3 => ?_)
      · have h0 := gt0 h3
        repeat refine And.intro rfl ?_
        refine ix_atw (e := eB) (xs := xs) ((show i - 1 < xs.length by omega)) (wrap_pred h0 hlt hs) rfl ?_
        repeat refine And.intro rfl ?_
        repeat refine And.intro rfl ?_
        refine ix_at (e := eB) (xs := xs) (hlt) rfl ?_
        repeat refine And.intro rfl ?_
        repeat refine And.intro rfl ?_
        refine And.intro (fun h4 => ?_) (fun h4 => ?_)
        · refine bd ?_
          rw [hr]; exact asc_less (key := id) hlt h0 h4
        · repeat refine And.intro rfl ?_
          exact ⟨_, _, _, ⟨i + 1, rfl, hlt, by rw [hr]; exact asc_ok (key := id) hlt h2 (.inr ⟨h0, h4⟩), rfl, rfl⟩, by omega, rfl, rfl, ⟨rfl, nd (wrap_succ hlt hs), trivial⟩, trivial, trivial⟩
      · repeat refine And.intro rfl ?_
        refine And.intro (fun h => absurd h (by simp)) (fun _ => ?_)
        repeat refine And.intro rfl ?_
        exact ⟨_, _, _, ⟨i + 1, rfl, hlt, by rw [hr]; exact asc_ok (key := id) hlt h2 (.inl (le0 h3)), rfl, rfl⟩, by omega, rfl, rfl, ⟨rfl, nd (wrap_succ hlt hs), trivial⟩, trivial, trivial⟩
    · repeat refine And.intro rfl ?_
      refine And.intro (fun _ => ?_) (fun h => absurd h (by simp))
      refine bd ?_
      rw [hr]; exact asc_name (key := id) hlt h2
  · refine bd ?_
    rw [hr, asc_end (ge_map h1)]
theorem i_ascendingNames (xs : List Bs) : Spec P 195 [.d (lS xs)] (.d (.bool (asc xs))) := by
  refine Spec.of_vc vcT vcM [.tmp 2] Tryz.func195 rfl rfl rfl rfl (fun hok => ?_)
  have hs : xs.length ≤ big := len_map hok.1.1
  repeat refine And.intro rfl ?_
  refine ⟨fun m l h => ∃ (i : Nat) , m = xs.length - i ∧ i ≤ xs.length ∧ (asc xs = ascK id (prevK id xs i) (xs.drop i)) ∧ l = [(0, .d (lS xs)), (5, .d (lS xs)), (6, .d (.int .i64 (xs.map eB).length)), (7, .d (.int .i64 i))] ∧ h = hp0,
    ⟨_, _, _, ⟨0, rfl, Nat.zero_le _, rfl, rfl, rfl⟩, rfl, rfl, ⟨rfl, rfl, rfl, rfl, trivial⟩, trivial, trivial⟩, ?_⟩
  rintro m l hh ⟨i, rfl, hi, hr, rfl, rfl⟩
  repeat refine And.intro rfl ?_
  refine And.intro (fun h1 => ?_) (fun h1 => ?_)
  · have hlt : i < xs.length := lt_map h1
    repeat refine And.intro rfl ?_
    refine ix_at (e := eB) (xs := xs) (hlt) rfl ?_
    repeat refine And.intro rfl ?_
    repeat refine And.intro rfl ?_
    refine Or.inl (Exists.intro _ (And.intro (i_isName _) ?_))
    repeat refine And.intro rfl ?_
    refine And.intro (fun h2 => ?_) (fun h2 => ?_)
    · repeat refine And.intro rfl ?_
      refine And.intro (fun h3 => ?_) (fun h3 => ?_)
      · have h0 := gt0 h3
        repeat refine And.intro rfl ?_
        refine ix_atw (e := eB) (xs := xs) ((show i - 1 < xs.length by omega)) (wrap_pred h0 hlt hs) rfl ?_
        repeat refine And.intro rfl ?_
        repeat refine And.intro rfl ?_
        refine And.intro (fun h4 => ?_) (fun h4 => ?_)
        · refine bd ?_
          rw [hr]; exact asc_less (key := id) hlt h0 h4
        · repeat refine And.intro rfl ?_
          exact ⟨_, _, _, ⟨i + 1, rfl, hlt, by rw [hr]; exact asc_ok (key := id) hlt h2 (.inr ⟨h0, h4⟩), rfl, rfl⟩, by omega, rfl, rfl, ⟨rfl, rfl, rfl, nd (wrap_succ hlt hs), trivial⟩, trivial, trivial⟩
      · repeat refine And.intro rfl ?_
        exact ⟨_, _, _, ⟨i + 1, rfl, hlt, by rw [hr]; exact asc_ok (key := id) hlt h2 (.inl (le0 h3)), rfl, rfl⟩, by omega, rfl, rfl, ⟨rfl, rfl, rfl, nd (wrap_succ hlt hs), trivial⟩, trivial, trivial⟩
    · refine bd ?_
      rw [hr]; exact asc_name (key := id) hlt h2
  · refine bd ?_
    rw [hr, asc_end (ge_map h1)]
theorem s_l1Has (xs : List Bs) (s : Bs) : Spec P 190 [.d (lS xs), .d (.str s)] (.d (.bool (xs.any (· == s)))) := by
  refine Spec.of_vc vcT vcM [.tmp 4] Tryz.func190 rfl rfl rfl rfl (fun hok => ?_)
  have hs : xs.length ≤ big := len_map hok.1.1
  repeat refine And.intro rfl ?_
  refine ⟨fun m l h => ∃ (i : Nat) , m = xs.length - i ∧ i ≤ xs.length ∧ (xs.any (· == s) = (xs.drop i).any (· == s)) ∧ l = [(0, .d (lS xs)), (1, .d (.str s)), (5, .d (.int .i64 i))] ∧ h = hp0,
    ⟨_, _, _, ⟨0, rfl, Nat.zero_le _, rfl, rfl, rfl⟩, rfl, rfl, ⟨rfl, rfl, rfl, trivial⟩, trivial, trivial⟩, ?_⟩
  rintro m l hh ⟨i, rfl, hi, hr, rfl, rfl⟩
  repeat refine And.intro rfl ?_
  refine And.intro (fun h1 => ?_) (fun h1 => ?_)
  · have hlt : i < xs.length := lt_map h1
    repeat refine And.intro rfl ?_
    refine ix_at (e := eB) (xs := xs) (hlt) rfl ?_
    repeat refine And.intro rfl ?_
    rw [any_step hlt] at hr
    repeat refine And.intro rfl ?_
    refine And.intro (fun h2 => ?_) (fun h2 => ?_)
    · refine bd ?_
      rw [hr, h2]; rfl
    · repeat refine And.intro rfl ?_
      exact ⟨_, _, _, ⟨i + 1, rfl, hlt, by rw [hr, h2]; rfl, rfl, rfl⟩, by omega, rfl, rfl, ⟨rfl, rfl, nd (wrap_succ hlt hs), trivial⟩, trivial, trivial⟩
  · refine bd ?_
    rw [hr, any_end (ge_map h1)]
end Go.Vc
end

section
namespace Go.Vc
open Go.Proofs
set_option maxRecDepth 100000
set_option pp.maxSteps 400
set_option pp.deepTerms false
set_option linter.unusedSimpArgs false
set_option linter.unusedVariables false
theorem s_l1Number (s : Bs) : Spec P 192 [.d (.str s)] (.d (.int .i64 (numF s))) := by
  refine Spec.of_vc vcT vcM [.tmp 2] Tryz.func192 rfl rfl rfl rfl (fun hok => ?_)
  have hs : s.length ≤ big := hok.1
  repeat refine And.intro rfl ?_
  refine Or.inl (Exists.intro _ (And.intro (s_l1In _ _ _) ?_))
  repeat refine And.intro rfl ?_
  refine And.intro (fun h => ?_) (fun h => ?_)
  · repeat refine And.intro rfl ?_
    refine And.intro (fun h2 => ?_) (fun h2 => ?_)
    · refine ix_str0 (num_small h).1 ?_
      repeat refine And.intro rfl ?_
      refine And.intro (fun h3 => ?_) (fun h3 => ?_)
      · refine nd ?_
        unfold numF
        rw [numOf_zero h h2 h3]
      · have hgo := numOf_go h (.inr h3)
        repeat refine And.intro rfl ?_
        refine ⟨fun m l h => ∃ (i : Nat) (n : Int), m = s.length - i ∧ i ≤ s.length ∧ ((0 ≤ n ∧ n < 10 ^ i) ∧ numOf s = numAcc n (s.drop i)) ∧ l = [(0, .d (.str s)), (3, .d (.int .i64 n)), (4, .d (.int .i64 i))] ∧ h = hp0,
          ⟨_, _, _, ⟨0, _, rfl, Nat.zero_le _, ⟨⟨Int.le_refl 0, by decide⟩, hgo⟩, rfl, rfl⟩, rfl, rfl, ⟨rfl, rfl, rfl, trivial⟩, trivial, trivial⟩, ?_⟩
        rintro m l hh ⟨i, n, rfl, hi, hr, rfl, rfl⟩
        obtain ⟨hn, hr⟩ := hr
        repeat refine And.intro rfl ?_
        refine And.intro (fun h1 => ?_) (fun h1 => ?_)
        · have hlt : i < s.length := lt_str h1
          rw [numAcc_step hlt] at hr
          repeat refine And.intro rfl ?_
          refine ix_str (hlt) ?_
          repeat refine And.intro rfl ?_
          repeat refine And.intro rfl ?_
          refine And.intro (fun h2 => ?_) (fun h2 => ?_)
          · repeat refine And.intro rfl ?_
            refine ix_str (hlt) ?_
            repeat refine And.intro rfl ?_
            repeat refine And.intro rfl ?_
            refine And.intro (fun h3 => ?_) (fun h3 => ?_)
            · refine nd ?_
              unfold numF
              rw [hr, h2, h3]; rfl
            · repeat refine And.intro rfl ?_
              refine ix_str (hlt) ?_
              repeat refine And.intro rfl ?_
              obtain ⟨q1, q2⟩ := num_room hn (by have := (num_small h).2; omega) h2 h3
              repeat refine And.intro rfl ?_
              exact ⟨_, _, _, ⟨i + 1, _, rfl, hlt, ⟨q2, by rw [hr, h2, h3]; rfl⟩, rfl, rfl⟩, by omega, rfl, rfl, ⟨rfl, nd q1, nd (wrap_succ hlt hs), trivial⟩, trivial, trivial⟩
          · refine nd ?_
            unfold numF
            rw [hr, h2]; rfl
        · refine nd ?_
          unfold numF
          rw [hr, numAcc_end (ge_str h1)]
    · have hgo := numOf_go h (.inl h2)
      repeat refine And.intro rfl ?_
      refine ⟨fun m l h => ∃ (i : Nat) (n : Int), m = s.length - i ∧ i ≤ s.length ∧ ((0 ≤ n ∧ n < 10 ^ i) ∧ numOf s = numAcc n (s.drop i)) ∧ l = [(0, .d (.str s)), (3, .d (.int .i64 n)), (4, .d (.int .i64 i))] ∧ h = hp0,
        ⟨_, _, _, ⟨0, _, rfl, Nat.zero_le _, ⟨⟨Int.le_refl 0, by decide⟩, hgo⟩, rfl, rfl⟩, rfl, rfl, ⟨rfl, rfl, rfl, trivial⟩, trivial, trivial⟩, ?_⟩
      rintro m l hh ⟨i, n, rfl, hi, hr, rfl, rfl⟩
      obtain ⟨hn, hr⟩ := hr
      repeat refine And.intro rfl ?_
      refine And.intro (fun h1 => ?_) (fun h1 => ?_)
      · have hlt : i < s.length := lt_str h1
        rw [numAcc_step hlt] at hr
        repeat refine And.intro rfl ?_
        refine ix_str (hlt) ?_
        repeat refine And.intro rfl ?_
        repeat refine And.intro rfl ?_
        refine And.intro (fun h2 => ?_) (fun h2 => ?_)
        · repeat refine And.intro rfl ?_
          refine ix_str (hlt) ?_
          repeat refine And.intro rfl ?_
          repeat refine And.intro rfl ?_
          refine And.intro (fun h3 => ?_) (fun h3 => ?_)
          · refine nd ?_
            unfold numF
            rw [hr, h2, h3]; rfl
          · repeat refine And.intro rfl ?_
            refine ix_str (hlt) ?_
            repeat refine And.intro rfl ?_
            obtain ⟨q1, q2⟩ := num_room hn (by have := (num_small h).2; omega) h2 h3
            repeat refine And.intro rfl ?_
            exact ⟨_, _, _, ⟨i + 1, _, rfl, hlt, ⟨q2, by rw [hr, h2, h3]; rfl⟩, rfl, rfl⟩, by omega, rfl, rfl, ⟨rfl, nd q1, nd (wrap_succ hlt hs), trivial⟩, trivial, trivial⟩
        · refine nd ?_
          unfold numF
          rw [hr, h2]; rfl
      · refine nd ?_
        unfold numF
        rw [hr, numAcc_end (ge_str h1)]
  · refine nd ?_
    unfold numF
    rw [numOf_no h]
theorem s_GateFits (f : GateField) (v : Bs) : Spec P 152 [st f.e, .d (.str v)] (.d (.bool (fitsF f v))) := by
  refine Spec.of_vc vcT vcM [.tmp 4] Tryz.func152 rfl rfl rfl rfl (fun hok => ?_)
  have hs : v.length ≤ big := hok.2.1
  repeat refine And.intro rfl ?_
  refine And.intro (fun h1 => ?_) (fun h1 => ?_)
  · repeat refine And.intro rfl ?_
    refine Or.inl (Exists.intro _ (And.intro (s_l1Number _) ?_))
    cases hq : numOf v with
    | none =>
      repeat refine And.intro rfl ?_
      refine And.intro (fun h2 => ?_) (fun h2 => ?_)
      · have := of_decide_eq_true h2
        unfold numF at this
        rw [hq] at this
        exact absurd this (by decide)
      · refine bd ?_
        unfold fitsF
        rw [h1, hq]; rfl
    | some n =>
      repeat refine And.intro rfl ?_
      refine And.intro (fun h2 => ?_) (fun h2 => ?_)
      · repeat refine And.intro rfl ?_
        refine Or.inl (Exists.intro _ (And.intro (s_l1In _ _ _) ?_))
        refine bd ?_
        unfold fitsF numF
        rw [h1, hq]; rfl
      · have := of_decide_eq_false h2
        unfold numF at this
        rw [hq] at this
        exact absurd (numOf_nonneg hq) this
  · repeat refine And.intro rfl ?_
    refine And.intro (fun h2 => ?_) (fun h2 => ?_)
    · repeat refine And.intro rfl ?_
      refine And.intro (fun h3 => ?_) (fun h3 => ?_)
      · repeat refine And.intro rfl ?_
        refine Or.inl (Exists.intro _ (And.intro (s_l1Has _ _) ?_))
        refine bd ?_
        unfold fitsF
        rw [h1, h2, h3]; rfl
      · refine bd ?_
        unfold fitsF
        rw [h1, h2, h3]; rfl
    · repeat refine And.intro rfl ?_
      refine And.intro (fun h3 => ?_) (fun h3 => ?_)
      · have e : fitsF f v = (v.all txByte && (!(v == []) && inR (v.length : Int) f.least f.most)) := by
          unfold fitsF; rw [h1, h2, h3]; rfl
        repeat refine And.intro rfl ?_
        refine ⟨fun m l h => ∃ (i : Nat) , m = v.length - i ∧ i ≤ v.length ∧ (v.all txByte = (v.drop i).all txByte) ∧ l = [(1, .d (.str v)), (2, .ptr 0 0), (6, .d (.int .i64 i))] ∧ h = ⟨[(0, .cells 191 (f.e.map .d))], 1, 0⟩,
          ⟨_, _, _, ⟨0, rfl, Nat.zero_le _, rfl, rfl, rfl⟩, rfl, rfl, ⟨rfl, rfl, rfl, trivial⟩, ⟨rfl, trivial⟩, ⟨rfl, trivial⟩⟩, ?_⟩
        rintro m l hh ⟨i, rfl, hi, hr, rfl, rfl⟩
        repeat refine And.intro rfl ?_
        refine And.intro (fun h4 => ?_) (fun h4 => ?_)
        · have hlt : i < v.length := lt_str h4
          rw [all_step hlt] at hr
          repeat refine And.intro rfl ?_
          refine ix_str (hlt) ?_
          repeat refine And.intro rfl ?_
          repeat refine And.intro rfl ?_
          refine Or.inl (Exists.intro _ (And.intro (s_l1In _ _ _) ?_))
          repeat refine And.intro rfl ?_
          refine And.intro (fun h5 => ?_) (fun h5 => ?_)
          · refine bd ?_
            rw [wrap_byte] at h5
            rw [e, hr, show txByte v[i] = false from by simpa [txByte] using h5]; rfl
          · rw [wrap_byte] at h5
            repeat refine And.intro rfl ?_
            exact ⟨_, _, _, ⟨i + 1, rfl, hlt, by rw [hr, show txByte v[i] = true from by simpa [txByte] using h5]; rfl, rfl, rfl⟩, by omega, rfl, rfl, ⟨rfl, rfl, nd (wrap_succ hlt hs), trivial⟩, ⟨rfl, trivial⟩, ⟨rfl, trivial⟩⟩
        · rw [all_end (ge_str h4)] at hr
          repeat refine And.intro rfl ?_
          refine And.intro (fun h5 => ?_) (fun h5 => ?_)
          · repeat refine And.intro rfl ?_
            refine Or.inl (Exists.intro _ (And.intro (s_l1In _ _ _) ?_))
            refine bd ?_
            rw [e, hr, h5]; rfl
          · refine bd ?_
            rw [e, hr, h5]; rfl
      · repeat refine And.intro rfl ?_
        refine And.intro (fun h4 => ?_) (fun h4 => ?_)
        · repeat refine And.intro rfl ?_
          refine Or.inl (Exists.intro _ (And.intro (s_l1NameOk _) ?_))
          refine bd ?_
          unfold fitsF; rw [h1, h2, h3, h4]; rfl
        · refine bd ?_
          unfold fitsF; rw [h1, h2, h3, h4]; rfl
theorem s_l1Bare (f : GateField) : Spec P 213 [st f.e] (.d (.bool (bareF f))) := by
  refine Spec.of_vc vcT vcM [.tmp 2] Tryz.func213 rfl rfl rfl rfl (fun hok => ?_)
  repeat' first
    | refine And.intro rfl ?_
    | refine And.intro (fun h => ?_) (fun h => ?_)
  all_goals (refine bd ?_; (try simp only [List.length_map, cond_true, cond_false] at *); simp only [bareF, *, Bool.false_or, Bool.true_or, Bool.or_false, Bool.or_true, Bool.and_true, Bool.true_and, Bool.and_false, Bool.false_and, Bool.not_true, Bool.not_false, Bool.not_not, cond_true, cond_false])
end Go.Vc
end
