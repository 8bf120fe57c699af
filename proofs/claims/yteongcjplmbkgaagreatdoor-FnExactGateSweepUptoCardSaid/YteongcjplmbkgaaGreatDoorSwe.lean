/- Part 5 of a proof: The table of types of this translation, and what a proof of  -/
import Derived.Test.YteongcjplmbkgaaGreatDoorSwa
import Derived.Test.YteongcjplmbkgaaGreatDoorSwb
import Derived.Test.YteongcjplmbkgaaGreatDoorSwc
import Derived.Test.YteongcjplmbkgaaGreatDoorSwd
import Derived.Test.YteongcjplmbkgaaGreatDoorChecked
import Derived.KernelRfl
import Derived.Test.YteongcjplmbkgaaGreatDoorRows
import Derived.JoinedCond
import Derived.OpenShut
import Derived.ReadAgain
import Derived.RowKit
import Derived.Test.YteongcjplmbkgaaGreatDoorCards
import Derived.Test.YteongcjplmbkgaaGreatDoorTie
import Derived.LaidLaws
import Derived.LaidHandle
import Derived.Deep.DeepHandedRow
import Derived.WalkKit
import Derived.LaidEql
import Derived.Stop.Asserts
import Derived.RowKitTokens
open Bool renaming not_eq_false' → Qaa, not_eq_true' → Qab, and_eq_true → Qag, and_eq_false_iff → Qah, and_false → Qal, true_and → Qan, false_and → Qao, false_or → Qaw, cond_eq_ite → Qax, or_eq_false_iff → Qaz, and_true → QaD, true_or → QaI, eq_iff_iff → QaL, or_false → QaS
open List renaming length_map → Qac, drop_eq_getElem_cons → Qad, drop_of_length_le → Qae, getElem?_eq_getElem → Qaf, length_take → Qai, take_succ_eq_append_getElem → Qak, map_cons → Qam, mem_cons_self → Qap, mem_cons_of_mem → Qaq, append_nil → Qas, flatten_cons → Qat, map_append → Qay, getElem?_append_right → QaB, any_cons → QaC, length_range → QaE, getElem_mem → QaG, take_of_length_le → QaM, mapM_cons → QaO, drop_drop → QaQ, getElem_take → QaU, length_cons → QaV, all_eq_true → QaW, cons_append → QaX
open Nat renaming zero_le → Qaj, zero_add → QaF, eq_of_beq_eq_true → QaP, pow_le_pow_right → QaR, lt_of_lt_of_le → QaT
open Int renaming le_refl → Qar, toNat_natCast → Qav, natCast_nonneg → QaA
open Option.some renaming injEq → Qau
open Exists renaming intro → QaH
open Option renaming bind_eq_some_iff → QaJ, map_some → QaK, map_eq_some_iff → QaN
set_option linter.unusedVariables false
set_option linter.unusedSimpArgs false
section
namespace Go.Vc
open Go.Proofs
noncomputable abbrev P:Program:=Tryz.prog
def LH:List (Nat×TI):=[
 (3,⟨(.int .i64),1,8,[.d (.int .i64 0)],[],false,[]⟩),
 (9,⟨.str,1,16,[.d (.str [])],[],false,[]⟩),
 (48,⟨(.struct [(0,3),(1,3),(2,3),(3,43),(4,44),(5,45),(6,46)]),7,120,[.d (.int .i64 0),.d (.int .i64 0),.d (.int .i64 0),.nils,.nils,.nils,.nils],[("loop.example/wharfhall/impl.find",186),("loop.example/wharfhall/impl.grantsOk",127),("loop.example/wharfhall/impl.ledger",98),("loop.example/wharfhall/impl.objectsOk",126),("loop.example/wharfhall/impl.purse",89),("loop.example/wharfhall/impl.sumsOk",128),("loop.example/wharfhall/impl.twin",82)],false,[]⟩),
 (103,⟨(.struct [(0,9),(1,9),(2,9),(3,101),(4,4),(5,101),(6,3)]),7,112,[.d (.str []),.d (.str []),.d (.str []),.nils,.d (.bool false),.nils,.d (.int .i64 0)],[("loop.example/wharfhall/impl.spot",104),("loop.example/wharfhall/impl.twin",145)],false,[]⟩),
 (41,⟨(.struct [(0,37),(1,38),(2,39)]),3,72,[.nils,.nils,.nils],[],false,[]⟩),
 (4,⟨.bool,1,1,[.d (.bool false)],[],false,[]⟩),
 (101,⟨(.slice 9),1,24,[.nils],[],false,[]⟩),
 (138,⟨(.struct [(0,9),(1,3),(2,3),(3,3),(4,101),(5,9),(6,3),(7,4),(8,4),(9,9),(10,9)]),11,128,[.d (.str []),.d (.int .i64 0),.d (.int .i64 0),.d (.int .i64 0),.nils,.d (.str []),.d (.int .i64 0),.d (.bool false),.d (.bool false),.d (.str []),.d (.str [])],[],false,[]⟩),
 (43,⟨(.slice 103),1,24,[.nils],[],false,[]⟩),
 (45,⟨(.slice 119),1,24,[.nils],[],false,[]⟩),
 (109,⟨(.struct [(0,9),(1,9),(2,9),(3,3),(4,3)]),5,64,[.d (.str []),.d (.str []),.d (.str []),.d (.int .i64 0),.d (.int .i64 0)],[],false,[]⟩),
 (46,⟨(.slice 109),1,24,[.nils],[],false,[]⟩),
 (119,⟨(.struct [(0,9),(1,9),(2,3),(3,3)]),4,48,[.d (.str []),.d (.str []),.d (.int .i64 0),.d (.int .i64 0)],[],false,[]⟩),
 (166,⟨(.struct [(0,9),(1,9),(2,9),(3,9),(4,9),(5,9)]),6,96,[.d (.str []),.d (.str []),.d (.str []),.d (.str []),.d (.str []),.d (.str [])],[],false,[]⟩),
 (162,⟨(.slice 138),1,24,[.nils],[],false,[]⟩),
 (35,⟨(.slice 3),1,24,[.nils],[],false,[]⟩),
 (32,⟨(.struct [(0,3),(1,3),(2,3),(3,27),(4,28),(5,29),(6,30)]),7,120,[.d (.int .i64 0),.d (.int .i64 0),.d (.int .i64 0),.nils,.nils,.nils,.nils],[],false,[]⟩),
 (26,⟨(.struct [(0,22),(1,23),(2,24)]),3,72,[.nils,.nils,.nils],[],false,[]⟩),
 (37,⟨(.slice 164),1,24,[.nils],[],false,[]⟩),
 (171,⟨(.struct [(0,35),(1,9),(2,9),(3,9)]),4,72,[.nils,.d (.str []),.d (.str []),.d (.str [])],[("loop.example/wharfhall/impl.ok",187),("loop.example/wharfhall/impl.twin",193)],false,[]⟩),
 (173,⟨(.struct [(0,3),(1,9),(2,9),(3,171)]),7,112,[.d (.int .i64 0),.d (.str []),.d (.str []),.nils,.d (.str []),.d (.str []),.d (.str [])],[("loop.example/wharfhall/impl.twin",147)],false,[]⟩),
 (164,⟨(.struct [(0,9),(1,162)]),2,40,[.d (.str []),.nils],[],false,[]⟩),
 (44,⟨(.slice 173),1,24,[.nils],[],false,[]⟩),
 (39,⟨(.slice 168),1,24,[.nils],[],false,[]⟩),
 (38,⟨(.slice 166),1,24,[.nils],[],false,[]⟩),
 (168,⟨(.struct [(0,9),(1,9)]),2,32,[.d (.str []),.d (.str [])],[],false,[]⟩),
 (95,⟨(.slice 4),1,24,[.nils],[],false,[]⟩),
 (5,⟨(.int .u8),1,1,[.d (.int .u8 0)],[],false,[]⟩),
 (237,⟨(.struct [(0,9),(1,3),(2,3),(3,3),(4,101),(5,9),(6,3),(7,4),(8,4),(9,9),(10,9)]),11,128,[.d (.str []),.d (.int .i64 0),.d (.int .i64 0),.d (.int .i64 0),.nils,.d (.str []),.d (.int .i64 0),.d (.bool false),.d (.bool false),.d (.str []),.d (.str [])],[],false,[]⟩),
 (99,⟨(.map 3 3),1,8,[.val (.map none)],[],false,[]⟩),
 (145,⟨(.struct [(0,9),(1,9),(2,9),(3,9),(4,9),(5,9)]),6,96,[.d (.str []),.d (.str []),.d (.str []),.d (.str []),.d (.str []),.d (.str [])],[],false,[]⟩),
 (150,⟨(.struct [(0,9),(1,9),(2,9),(3,101),(4,4),(5,101),(6,3)]),7,112,[.d (.str []),.d (.str []),.d (.str []),.nils,.d (.bool false),.nils,.d (.int .i64 0)],[],false,[]⟩),
 (289,⟨(.struct [(0,138)]),11,128,[.d (.str []),.d (.int .i64 0),.d (.int .i64 0),.d (.int .i64 0),.nils,.d (.str []),.d (.int .i64 0),.d (.bool false),.d (.bool false),.d (.str []),.d (.str [])],[("loop.example/wharfhall/impl.clean",269),("loop.example/wharfhall/impl.fits",270),("loop.example/wharfhall/impl.sound",271)],false,[]⟩),
 (292,⟨(.struct [(0,138)]),11,128,[.d (.str []),.d (.int .i64 0),.d (.int .i64 0),.d (.int .i64 0),.nils,.d (.str []),.d (.int .i64 0),.d (.bool false),.d (.bool false),.d (.str []),.d (.str [])],[("loop.example/wharfhall/impl.clean",275),("loop.example/wharfhall/impl.fits",276),("loop.example/wharfhall/impl.sound",277)],false,[]⟩),
 (293,⟨(.struct [(0,138)]),11,128,[.d (.str []),.d (.int .i64 0),.d (.int .i64 0),.d (.int .i64 0),.nils,.d (.str []),.d (.int .i64 0),.d (.bool false),.d (.bool false),.d (.str []),.d (.str [])],[("loop.example/wharfhall/impl.clean",278),("loop.example/wharfhall/impl.fits",279),("loop.example/wharfhall/impl.sound",280)],false,[]⟩),
 (153,⟨(.struct [(0,35),(1,9),(2,9),(3,9)]),4,72,[.nils,.d (.str []),.d (.str []),.d (.str [])],[],false,[]⟩),
 (159,⟨(.struct [(0,9),(1,9),(2,9),(3,3),(4,3)]),5,64,[.d (.str []),.d (.str []),.d (.str []),.d (.int .i64 0),.d (.int .i64 0)],[],false,[]⟩),
 (291,⟨(.struct [(0,138)]),11,128,[.d (.str []),.d (.int .i64 0),.d (.int .i64 0),.d (.int .i64 0),.nils,.d (.str []),.d (.int .i64 0),.d (.bool false),.d (.bool false),.d (.str []),.d (.str [])],[("loop.example/wharfhall/impl.clean",272),("loop.example/wharfhall/impl.fits",273),("loop.example/wharfhall/impl.sound",274)],false,[]⟩),
 (155,⟨(.struct [(0,3),(1,9),(2,9),(3,153)]),7,112,[.d (.int .i64 0),.d (.str []),.d (.str []),.nils,.d (.str []),.d (.str []),.d (.str [])],[],false,[]⟩),
 (271,⟨(.map 9 3),1,8,[.val (.map none)],[],false,[]⟩),
 (157,⟨(.struct [(0,9),(1,9),(2,3),(3,3)]),4,48,[.d (.str []),.d (.str []),.d (.int .i64 0),.d (.int .i64 0)],[],false,[]⟩),
 (22,⟨(.slice 142),1,24,[.nils],[],false,[]⟩),
 (23,⟨(.slice 145),1,24,[.nils],[],false,[]⟩),
 (24,⟨(.slice 148),1,24,[.nils],[],false,[]⟩),
 (27,⟨(.slice 150),1,24,[.nils],[],false,[]⟩),
 (28,⟨(.slice 155),1,24,[.nils],[],false,[]⟩),
 (29,⟨(.slice 157),1,24,[.nils],[],false,[]⟩),
 (30,⟨(.slice 159),1,24,[.nils],[],false,[]⟩),
 (140,⟨(.slice 237),1,24,[.nils],[],false,[]⟩),
 (142,⟨(.struct [(0,9),(1,140)]),2,40,[.d (.str []),.nils],[],false,[]⟩),
 (148,⟨(.struct [(0,9),(1,9)]),2,32,[.d (.str []),.d (.str [])],[],false,[]⟩),
 (266,⟨(.struct [(0,3),(1,3)]),2,16,[.d (.int .i64 0),.d (.int .i64 0)],[],false,[]⟩),
 (126,⟨(.map 130 128),1,8,[.val (.map none)],[],false,[]⟩),
 (128,⟨(.struct []),0,0,[],[],false,[]⟩),
 (224,⟨(.map 226 3),1,8,[.val (.map none)],[],false,[]⟩),
 (264,⟨.ptr,1,8,[.val (.pointer none)],[],false,[]⟩),
 (294,⟨(.map 3 290),1,8,[.val (.map none)],[],false,[]⟩),
 (100,⟨.func,1,8,[.val .nilFunc],[],false,[]⟩),
 (115,⟨.func,1,8,[.val .nilFunc],[],false,[]⟩),
 (130,⟨(.struct [(0,9),(1,9)]),2,32,[.d (.str []),.d (.str [])],[],true,[]⟩),
 (127,⟨(.map 3 128),1,8,[.val (.map none)],[],false,[]⟩),
 (226,⟨(.struct [(0,9),(1,9)]),2,32,[.d (.str []),.d (.str [])],[],true,[]⟩),
 (250,⟨(.slice 249),1,24,[.nils],[],false,[]⟩),
 (252,⟨.iface,1,16,[.val .nilIface],[],false,[]⟩),
 (263,⟨.func,1,8,[.val .nilFunc],[],false,[]⟩),
 (203,⟨.ptr,1,8,[.val (.pointer none)],[],false,[]⟩),
 (229,⟨(.slice 5),1,24,[.nils],[],false,[]⟩),
 (20,⟨.iface,1,16,[.val .nilIface],[],false,[]⟩),
 (191,⟨.func,1,8,[.val .nilFunc],[],false,[]⟩),
 (197,⟨.func,1,8,[.val .nilFunc],[],false,[]⟩),
 (200,⟨.func,1,8,[.val .nilFunc],[],false,[]⟩),
 (202,⟨.func,1,8,[.val .nilFunc],[],false,[]⟩),
 (249,⟨.func,1,8,[.val .nilFunc],[],false,[]⟩),
 (268,⟨.ptr,1,8,[.val (.pointer none)],[],false,[]⟩),
 (290,⟨.func,1,8,[.val .nilFunc],[],false,[]⟩)]
theorem aO:bi P LH=true:=by kernel_rfl
def K4:List (Nat×TI):=[
 (3,⟨(.int .i64),1,8,[.d (.int .i64 0)],[],false,[.leaf]⟩),
 (9,⟨.str,1,16,[.d (.str [])],[],false,[.leaf]⟩),
 (48,⟨(.struct [(0,3),(1,3),(2,3),(3,43),(4,44),(5,45),(6,46)]),7,120,[.d (.int .i64 0),.d (.int .i64 0),.d (.int .i64 0),.nils,.nils,.nils,.nils],[("loop.example/wharfhall/impl.find",186),("loop.example/wharfhall/impl.grantsOk",127),("loop.example/wharfhall/impl.ledger",98),("loop.example/wharfhall/impl.objectsOk",126),("loop.example/wharfhall/impl.purse",89),("loop.example/wharfhall/impl.sumsOk",128),("loop.example/wharfhall/impl.twin",82)],false,[.leaf,.leaf,.leaf,.list 103 7 [.leaf,.leaf,.leaf,.list 9 1 [.leaf],.leaf,.list 9 1 [.leaf],.leaf],.list 173 7 [.leaf,.leaf,.leaf,.list 3 1 [.leaf],.leaf,.leaf,.leaf],.list 119 4 [.leaf,.leaf,.leaf,.leaf],.list 109 5 [.leaf,.leaf,.leaf,.leaf,.leaf]]⟩),
 (103,⟨(.struct [(0,9),(1,9),(2,9),(3,101),(4,4),(5,101),(6,3)]),7,112,[.d (.str []),.d (.str []),.d (.str []),.nils,.d (.bool false),.nils,.d (.int .i64 0)],[("loop.example/wharfhall/impl.spot",104),("loop.example/wharfhall/impl.twin",145)],false,[.leaf,.leaf,.leaf,.list 9 1 [.leaf],.leaf,.list 9 1 [.leaf],.leaf]⟩),
 (41,⟨(.struct [(0,37),(1,38),(2,39)]),3,72,[.nils,.nils,.nils],[],false,[.list 164 2 [.leaf,.list 138 11 [.leaf,.leaf,.leaf,.leaf,.list 9 1 [.leaf],.leaf,.leaf,.leaf,.leaf,.leaf,.leaf]],.list 166 6 [.leaf,.leaf,.leaf,.leaf,.leaf,.leaf],.list 168 2 [.leaf,.leaf]]⟩),
 (4,⟨.bool,1,1,[.d (.bool false)],[],false,[.leaf]⟩),
 (101,⟨(.slice 9),1,24,[.nils],[],false,[.list 9 1 [.leaf]]⟩),
 (138,⟨(.struct [(0,9),(1,3),(2,3),(3,3),(4,101),(5,9),(6,3),(7,4),(8,4),(9,9),(10,9)]),11,128,[.d (.str []),.d (.int .i64 0),.d (.int .i64 0),.d (.int .i64 0),.nils,.d (.str []),.d (.int .i64 0),.d (.bool false),.d (.bool false),.d (.str []),.d (.str [])],[],false,[.leaf,.leaf,.leaf,.leaf,.list 9 1 [.leaf],.leaf,.leaf,.leaf,.leaf,.leaf,.leaf]⟩),
 (43,⟨(.slice 103),1,24,[.nils],[],false,[.list 103 7 [.leaf,.leaf,.leaf,.list 9 1 [.leaf],.leaf,.list 9 1 [.leaf],.leaf]]⟩),
 (45,⟨(.slice 119),1,24,[.nils],[],false,[.list 119 4 [.leaf,.leaf,.leaf,.leaf]]⟩),
 (109,⟨(.struct [(0,9),(1,9),(2,9),(3,3),(4,3)]),5,64,[.d (.str []),.d (.str []),.d (.str []),.d (.int .i64 0),.d (.int .i64 0)],[],false,[.leaf,.leaf,.leaf,.leaf,.leaf]⟩),
 (46,⟨(.slice 109),1,24,[.nils],[],false,[.list 109 5 [.leaf,.leaf,.leaf,.leaf,.leaf]]⟩),
 (119,⟨(.struct [(0,9),(1,9),(2,3),(3,3)]),4,48,[.d (.str []),.d (.str []),.d (.int .i64 0),.d (.int .i64 0)],[],false,[.leaf,.leaf,.leaf,.leaf]⟩),
 (166,⟨(.struct [(0,9),(1,9),(2,9),(3,9),(4,9),(5,9)]),6,96,[.d (.str []),.d (.str []),.d (.str []),.d (.str []),.d (.str []),.d (.str [])],[],false,[.leaf,.leaf,.leaf,.leaf,.leaf,.leaf]⟩),
 (162,⟨(.slice 138),1,24,[.nils],[],false,[.list 138 11 [.leaf,.leaf,.leaf,.leaf,.list 9 1 [.leaf],.leaf,.leaf,.leaf,.leaf,.leaf,.leaf]]⟩),
 (35,⟨(.slice 3),1,24,[.nils],[],false,[.list 3 1 [.leaf]]⟩),
 (32,⟨(.struct [(0,3),(1,3),(2,3),(3,27),(4,28),(5,29),(6,30)]),7,120,[.d (.int .i64 0),.d (.int .i64 0),.d (.int .i64 0),.nils,.nils,.nils,.nils],[],false,[.leaf,.leaf,.leaf,.list 150 7 [.leaf,.leaf,.leaf,.list 9 1 [.leaf],.leaf,.list 9 1 [.leaf],.leaf],.list 155 7 [.leaf,.leaf,.leaf,.list 3 1 [.leaf],.leaf,.leaf,.leaf],.list 157 4 [.leaf,.leaf,.leaf,.leaf],.list 159 5 [.leaf,.leaf,.leaf,.leaf,.leaf]]⟩),
 (26,⟨(.struct [(0,22),(1,23),(2,24)]),3,72,[.nils,.nils,.nils],[],false,[.list 142 2 [.leaf,.list 237 11 [.leaf,.leaf,.leaf,.leaf,.list 9 1 [.leaf],.leaf,.leaf,.leaf,.leaf,.leaf,.leaf]],.list 145 6 [.leaf,.leaf,.leaf,.leaf,.leaf,.leaf],.list 148 2 [.leaf,.leaf]]⟩),
 (37,⟨(.slice 164),1,24,[.nils],[],false,[.list 164 2 [.leaf,.list 138 11 [.leaf,.leaf,.leaf,.leaf,.list 9 1 [.leaf],.leaf,.leaf,.leaf,.leaf,.leaf,.leaf]]]⟩),
 (171,⟨(.struct [(0,35),(1,9),(2,9),(3,9)]),4,72,[.nils,.d (.str []),.d (.str []),.d (.str [])],[("loop.example/wharfhall/impl.ok",187),("loop.example/wharfhall/impl.twin",193)],false,[.list 3 1 [.leaf],.leaf,.leaf,.leaf]⟩),
 (173,⟨(.struct [(0,3),(1,9),(2,9),(3,171)]),7,112,[.d (.int .i64 0),.d (.str []),.d (.str []),.nils,.d (.str []),.d (.str []),.d (.str [])],[("loop.example/wharfhall/impl.twin",147)],false,[.leaf,.leaf,.leaf,.list 3 1 [.leaf],.leaf,.leaf,.leaf]⟩),
 (164,⟨(.struct [(0,9),(1,162)]),2,40,[.d (.str []),.nils],[],false,[.leaf,.list 138 11 [.leaf,.leaf,.leaf,.leaf,.list 9 1 [.leaf],.leaf,.leaf,.leaf,.leaf,.leaf,.leaf]]⟩),
 (44,⟨(.slice 173),1,24,[.nils],[],false,[.list 173 7 [.leaf,.leaf,.leaf,.list 3 1 [.leaf],.leaf,.leaf,.leaf]]⟩),
 (39,⟨(.slice 168),1,24,[.nils],[],false,[.list 168 2 [.leaf,.leaf]]⟩),
 (38,⟨(.slice 166),1,24,[.nils],[],false,[.list 166 6 [.leaf,.leaf,.leaf,.leaf,.leaf,.leaf]]⟩),
 (168,⟨(.struct [(0,9),(1,9)]),2,32,[.d (.str []),.d (.str [])],[],false,[.leaf,.leaf]⟩),
 (95,⟨(.slice 4),1,24,[.nils],[],false,[.list 4 1 [.leaf]]⟩),
 (5,⟨(.int .u8),1,1,[.d (.int .u8 0)],[],false,[.leaf]⟩),
 (237,⟨(.struct [(0,9),(1,3),(2,3),(3,3),(4,101),(5,9),(6,3),(7,4),(8,4),(9,9),(10,9)]),11,128,[.d (.str []),.d (.int .i64 0),.d (.int .i64 0),.d (.int .i64 0),.nils,.d (.str []),.d (.int .i64 0),.d (.bool false),.d (.bool false),.d (.str []),.d (.str [])],[],false,[.leaf,.leaf,.leaf,.leaf,.list 9 1 [.leaf],.leaf,.leaf,.leaf,.leaf,.leaf,.leaf]⟩),
 (99,⟨(.map 3 3),1,8,[.val (.map none)],[],false,[]⟩),
 (145,⟨(.struct [(0,9),(1,9),(2,9),(3,9),(4,9),(5,9)]),6,96,[.d (.str []),.d (.str []),.d (.str []),.d (.str []),.d (.str []),.d (.str [])],[],false,[.leaf,.leaf,.leaf,.leaf,.leaf,.leaf]⟩),
 (150,⟨(.struct [(0,9),(1,9),(2,9),(3,101),(4,4),(5,101),(6,3)]),7,112,[.d (.str []),.d (.str []),.d (.str []),.nils,.d (.bool false),.nils,.d (.int .i64 0)],[],false,[.leaf,.leaf,.leaf,.list 9 1 [.leaf],.leaf,.list 9 1 [.leaf],.leaf]⟩),
 (289,⟨(.struct [(0,138)]),11,128,[.d (.str []),.d (.int .i64 0),.d (.int .i64 0),.d (.int .i64 0),.nils,.d (.str []),.d (.int .i64 0),.d (.bool false),.d (.bool false),.d (.str []),.d (.str [])],[("loop.example/wharfhall/impl.clean",269),("loop.example/wharfhall/impl.fits",270),("loop.example/wharfhall/impl.sound",271)],false,[.leaf,.leaf,.leaf,.leaf,.list 9 1 [.leaf],.leaf,.leaf,.leaf,.leaf,.leaf,.leaf]⟩),
 (292,⟨(.struct [(0,138)]),11,128,[.d (.str []),.d (.int .i64 0),.d (.int .i64 0),.d (.int .i64 0),.nils,.d (.str []),.d (.int .i64 0),.d (.bool false),.d (.bool false),.d (.str []),.d (.str [])],[("loop.example/wharfhall/impl.clean",275),("loop.example/wharfhall/impl.fits",276),("loop.example/wharfhall/impl.sound",277)],false,[.leaf,.leaf,.leaf,.leaf,.list 9 1 [.leaf],.leaf,.leaf,.leaf,.leaf,.leaf,.leaf]⟩),
 (293,⟨(.struct [(0,138)]),11,128,[.d (.str []),.d (.int .i64 0),.d (.int .i64 0),.d (.int .i64 0),.nils,.d (.str []),.d (.int .i64 0),.d (.bool false),.d (.bool false),.d (.str []),.d (.str [])],[("loop.example/wharfhall/impl.clean",278),("loop.example/wharfhall/impl.fits",279),("loop.example/wharfhall/impl.sound",280)],false,[.leaf,.leaf,.leaf,.leaf,.list 9 1 [.leaf],.leaf,.leaf,.leaf,.leaf,.leaf,.leaf]⟩),
 (153,⟨(.struct [(0,35),(1,9),(2,9),(3,9)]),4,72,[.nils,.d (.str []),.d (.str []),.d (.str [])],[],false,[.list 3 1 [.leaf],.leaf,.leaf,.leaf]⟩),
 (159,⟨(.struct [(0,9),(1,9),(2,9),(3,3),(4,3)]),5,64,[.d (.str []),.d (.str []),.d (.str []),.d (.int .i64 0),.d (.int .i64 0)],[],false,[.leaf,.leaf,.leaf,.leaf,.leaf]⟩),
 (291,⟨(.struct [(0,138)]),11,128,[.d (.str []),.d (.int .i64 0),.d (.int .i64 0),.d (.int .i64 0),.nils,.d (.str []),.d (.int .i64 0),.d (.bool false),.d (.bool false),.d (.str []),.d (.str [])],[("loop.example/wharfhall/impl.clean",272),("loop.example/wharfhall/impl.fits",273),("loop.example/wharfhall/impl.sound",274)],false,[.leaf,.leaf,.leaf,.leaf,.list 9 1 [.leaf],.leaf,.leaf,.leaf,.leaf,.leaf,.leaf]⟩),
 (155,⟨(.struct [(0,3),(1,9),(2,9),(3,153)]),7,112,[.d (.int .i64 0),.d (.str []),.d (.str []),.nils,.d (.str []),.d (.str []),.d (.str [])],[],false,[.leaf,.leaf,.leaf,.list 3 1 [.leaf],.leaf,.leaf,.leaf]⟩),
 (271,⟨(.map 9 3),1,8,[.val (.map none)],[],false,[]⟩),
 (157,⟨(.struct [(0,9),(1,9),(2,3),(3,3)]),4,48,[.d (.str []),.d (.str []),.d (.int .i64 0),.d (.int .i64 0)],[],false,[.leaf,.leaf,.leaf,.leaf]⟩),
 (22,⟨(.slice 142),1,24,[.nils],[],false,[.list 142 2 [.leaf,.list 237 11 [.leaf,.leaf,.leaf,.leaf,.list 9 1 [.leaf],.leaf,.leaf,.leaf,.leaf,.leaf,.leaf]]]⟩),
 (23,⟨(.slice 145),1,24,[.nils],[],false,[.list 145 6 [.leaf,.leaf,.leaf,.leaf,.leaf,.leaf]]⟩),
 (24,⟨(.slice 148),1,24,[.nils],[],false,[.list 148 2 [.leaf,.leaf]]⟩),
 (27,⟨(.slice 150),1,24,[.nils],[],false,[.list 150 7 [.leaf,.leaf,.leaf,.list 9 1 [.leaf],.leaf,.list 9 1 [.leaf],.leaf]]⟩),
 (28,⟨(.slice 155),1,24,[.nils],[],false,[.list 155 7 [.leaf,.leaf,.leaf,.list 3 1 [.leaf],.leaf,.leaf,.leaf]]⟩),
 (29,⟨(.slice 157),1,24,[.nils],[],false,[.list 157 4 [.leaf,.leaf,.leaf,.leaf]]⟩),
 (30,⟨(.slice 159),1,24,[.nils],[],false,[.list 159 5 [.leaf,.leaf,.leaf,.leaf,.leaf]]⟩),
 (140,⟨(.slice 237),1,24,[.nils],[],false,[.list 237 11 [.leaf,.leaf,.leaf,.leaf,.list 9 1 [.leaf],.leaf,.leaf,.leaf,.leaf,.leaf,.leaf]]⟩),
 (142,⟨(.struct [(0,9),(1,140)]),2,40,[.d (.str []),.nils],[],false,[.leaf,.list 237 11 [.leaf,.leaf,.leaf,.leaf,.list 9 1 [.leaf],.leaf,.leaf,.leaf,.leaf,.leaf,.leaf]]⟩),
 (148,⟨(.struct [(0,9),(1,9)]),2,32,[.d (.str []),.d (.str [])],[],false,[.leaf,.leaf]⟩),
 (266,⟨(.struct [(0,3),(1,3)]),2,16,[.d (.int .i64 0),.d (.int .i64 0)],[],false,[.leaf,.leaf]⟩),
 (126,⟨(.map 130 128),1,8,[.val (.map none)],[],false,[]⟩),
 (128,⟨(.struct []),0,0,[],[],false,[]⟩),
 (224,⟨(.map 226 3),1,8,[.val (.map none)],[],false,[]⟩),
 (264,⟨.ptr,1,8,[.val (.pointer none)],[],false,[]⟩),
 (294,⟨(.map 3 290),1,8,[.val (.map none)],[],false,[]⟩),
 (100,⟨.func,1,8,[.val .nilFunc],[],false,[]⟩),
 (115,⟨.func,1,8,[.val .nilFunc],[],false,[]⟩),
 (130,⟨(.struct [(0,9),(1,9)]),2,32,[.d (.str []),.d (.str [])],[],true,[.leaf,.leaf]⟩),
 (127,⟨(.map 3 128),1,8,[.val (.map none)],[],false,[]⟩),
 (226,⟨(.struct [(0,9),(1,9)]),2,32,[.d (.str []),.d (.str [])],[],true,[.leaf,.leaf]⟩),
 (250,⟨(.slice 249),1,24,[.nils],[],false,[]⟩),
 (252,⟨.iface,1,16,[.val .nilIface],[],false,[]⟩),
 (263,⟨.func,1,8,[.val .nilFunc],[],false,[]⟩),
 (203,⟨.ptr,1,8,[.val (.pointer none)],[],false,[]⟩),
 (229,⟨(.slice 5),1,24,[.nils],[],false,[.list 5 1 [.leaf]]⟩),
 (20,⟨.iface,1,16,[.val .nilIface],[],false,[]⟩),
 (191,⟨.func,1,8,[.val .nilFunc],[],false,[]⟩),
 (197,⟨.func,1,8,[.val .nilFunc],[],false,[]⟩),
 (200,⟨.func,1,8,[.val .nilFunc],[],false,[]⟩),
 (202,⟨.func,1,8,[.val .nilFunc],[],false,[]⟩),
 (249,⟨.func,1,8,[.val .nilFunc],[],false,[]⟩),
 (268,⟨.ptr,1,8,[.val (.pointer none)],[],false,[]⟩),
 (290,⟨.func,1,8,[.val .nilFunc],[],false,[]⟩)]
theorem cd:bi P K4=true:=by kernel_rfl
theorem aA:P.follows .mixedOrders=true:=Tryz.checked.mixed
end Go.Vc
end
section
namespace Go.Vc
def eB (s:Bs):List D:=[.str s]
def eN (n:Int):List D:=[.int .i64 n]
def lS (l:List Bs):D:= .list (l.map eB)
def lI (l:List Int):D:= .list (l.map eN)
structure GateField where
 name:Bs
 kind:Int
 least:Int
 most:Int
 words:List Bs
 to_:Bs
 role:Int
 must:Bool
 fixed:Bool
 default_:Bs
 weighs:Bs
def GateField.e (x:GateField):List D:=[.str x.name,.int .i64 x.kind,.int .i64 x.least,.int .i64 x.most,lS x.words,.str x.to_,.int .i64 x.role,.bool x.must,.bool x.fixed,.str x.default_,.str x.weighs]
def ad (l:List GateField):D:= .list (l.map GateField.e)
structure GateShape where
 kind:Bs
 fields:List GateField
def GateShape.e (x:GateShape):List D:=[.str x.kind,ad x.fields]
def ab (l:List GateShape):D:= .list (l.map GateShape.e)
structure GateMend where
 kind:Bs
 field:Bs
 when_:Bs
 is_:Bs
 put:Bs
 from_:Bs
def GateMend.e (x:GateMend):List D:=[.str x.kind,.str x.field,.str x.when_,.str x.is_,.str x.put,.str x.from_]
def ap (l:List GateMend):D:= .list (l.map GateMend.e)
structure GateTeam where
 name:Bs
 over:Bs
def GateTeam.e (x:GateTeam):List D:=[.str x.name,.str x.over]
def ar (l:List GateTeam):D:= .list (l.map GateTeam.e)
structure GateLaw where
 shapes:List GateShape
 mends:List GateMend
 teams:List GateTeam
def GateLaw.e (x:GateLaw):List D:=[ab x.shapes,ap x.mends,ar x.teams]
def Kk (l:List GateLaw):D:= .list (l.map GateLaw.e)
structure GateObject where
 kind:Bs
 name:Bs
 team:Bs
 values:List Bs
 ending:Bool
 holds:List Bs
 version:Int
def GateObject.e (x:GateObject):List D:=[.str x.kind,.str x.name,.str x.team,lS x.values,.bool x.ending,lS x.holds,.int .i64 x.version]
def aC (l:List GateObject):D:= .list (l.map GateObject.e)
structure GateRule where
 verbs:List Int
 kind:Bs
 team:Bs
 prefix_:Bs
def GateRule.e (x:GateRule):List D:=[lI x.verbs,.str x.kind,.str x.team,.str x.prefix_]
def JS (l:List GateRule):D:= .list (l.map GateRule.e)
structure GateGrant where
 number:Int
 to_:Bs
 by_:Bs
 rule:GateRule
def GateGrant.e (x:GateGrant):List D:=[.int .i64 x.number,.str x.to_,.str x.by_,lI x.rule.verbs,.str x.rule.kind,.str x.rule.team,.str x.rule.prefix_]
def bf (l:List GateGrant):D:= .list (l.map GateGrant.e)
structure GateLedger where
 team:Bs
 resource:Bs
 most:Int
 free:Int
def GateLedger.e (x:GateLedger):List D:=[.str x.team,.str x.resource,.int .i64 x.most,.int .i64 x.free]
def aL (l:List GateLedger):D:= .list (l.map GateLedger.e)
structure GatePurse where
 door:Bs
 team:Bs
 resource:Bs
 amount:Int
 until_:Int
def GatePurse.e (x:GatePurse):List D:=[.str x.door,.str x.team,.str x.resource,.int .i64 x.amount,.int .i64 x.until_]
def be (l:List GatePurse):D:= .list (l.map GatePurse.e)
structure GateBook where
 now:Int
 tick:Int
 given:Int
 objects:List GateObject
 grants:List GateGrant
 ledgers:List GateLedger
 purses:List GatePurse
def GateBook.e (x:GateBook):List D:=[.int .i64 x.now,.int .i64 x.tick,.int .i64 x.given,aC x.objects,bf x.grants,aL x.ledgers,be x.purses]
def JT (l:List GateBook):D:= .list (l.map GateBook.e)
def st (ds:List D):AV:= .agg (ds.map .d)
end Go.Vc
end
section
namespace Go.Vc
theorem O {α:Type} {e:α→List D} {xs:List α} {k sz:Nat} {K:List D→Prop} (hk:k<xs.length) (hs:(e xs[k]).length=sz) (h:K (e xs[k])):
 (0:Int)≤(k:Int)∧∃b,(xs.map e)[(k:Int).toNat]? =some b∧b.length=sz∧K b:=
 ⟨QaA k,e xs[k],by simp[hk],hs,h⟩
theorem yE {α:Type} {e:α→List D} {xs:List α} {k:Nat} (hk:k<xs.length):(xs.map e)[(k:Int).toNat]? =some (e xs[k]):=by simp[hk]
theorem dl {s:Bs} {k:Nat} {K:UInt8→Prop} (hk:k<s.length) (h:K s[k]):(0:Int)≤(k:Int)∧∃b,s[(k:Int).toNat]? =some b∧K b:=
 ⟨QaA k,s[k],by simp[hk],h⟩
theorem aH {α:Type} {e:α→List D} {xs:List α} {k sz:Nat} {j:Int} {K:List D→Prop} (hk:k<xs.length) (hj:j=(k:Int)) (hs:(e xs[k]).length=sz) (h:K (e xs[k])):
 (0:Int)≤j∧∃b,(xs.map e)[j.toNat]? =some b∧b.length=sz∧K b:=by subst hj;exact O hk hs h
theorem DD {s:Bs} {K:UInt8→Prop} (hk:0<s.length) (h:K s[0]):(0:Int)≤0∧∃b,s[(0:Int).toNat]? =some b∧K b:=
 ⟨Qar 0,s[0],by simp[hk],h⟩
theorem bc {k n:Nat} (h0:0<k) (h:k<n) (hn:n≤big):IntKind.i64.wrap ((k:Int) - 1)=((k - 1:Nat):Int):=by
 unfold big at hn;rw[IntKind.wrap_i64];omega
theorem bd {a b:Bool} (h:a=b):AV.d (.bool a)=AV.d (.bool b):=by rw[h]
theorem sd {a b:Bs} (h:a=b):AV.d (.str a)=AV.d (.str b):=by rw[h]
theorem ld {a b:List (List D)} (h:a=b):AV.d (.list a)=AV.d (.list b):=by rw[h]
theorem JQ {a b:Int} (h:decide (a<b)=true):a<b:=of_decide_eq_true h
theorem U {α:Type} {e:α→List D} {xs:List α} {i:Nat} (h:decide ((i:Int)<((xs.map e).length:Int))=true):i<xs.length:=by
 have:=of_decide_eq_true h;rw[Qac] at this;omega
theorem V {α:Type} {e:α→List D} {xs:List α} {i:Nat} (h:decide ((i:Int)<((xs.map e).length:Int))=false):xs.length≤i:=by
 have:=of_decide_eq_false h;rw[Qac] at this;omega
theorem hM {s:Bs} {i:Nat} (h:decide ((i:Int)<(s.length:Int))=true):i<s.length:=by
 have:=of_decide_eq_true h;omega
theorem fV {s:Bs} {i:Nat} (h:decide ((i:Int)<(s.length:Int))=false):s.length≤i:=by
 have:=of_decide_eq_false h;omega
theorem az {α:Type} {e:α→List D} {xs:List α} (h:(xs.map e).length≤big):xs.length≤big:=by rwa [Qac] at h
theorem dd {α:Type} {e:α→List D} {xs:List α} (h:xs.length≤big):(((xs.map e).length:Nat):Int)≤(big:Int):=by rw[Qac];omega
def aP (a:Int) (k:Int→Int):Int:=bif decide (a<0) then -1 else k a
def iO {α:Type} (m:α→Int→Int):List α→Int→Int
 |[],n=>n
 |x::xs,n=>aP (m x n) (iO m xs)
theorem cm {α:Type} {m:α→Int→Int} {xs:List α} {i:Nat} {v:Int} (h:i<xs.length):iO m (xs.drop i) v=aP (m xs[i] v) (iO m (xs.drop (i+1))):=by
 rw[Qad h];rfl
def bo {α:Type} (e:α→List D) (xs:List α) (z:List D) (i:Nat):List (List D):=(xs.take i).map e++List.replicate (xs.length - i) z
section
variable {α:Type} {e:α→List D} {xs:List α} {z:List D} {i:Nat}
theorem aY (hi:i≤xs.length):(bo e xs z i).length=xs.length:=by
 simp only[bo,List.length_append,Qac,Qai,List.length_replicate];omega
theorem ct {t n:Nat}:some (AO.row t n (List.replicate ((((xs.map e).length:Nat):Int)).toNat z))=some (AO.row t n (bo e xs z 0)):=by
 simp[bo]
theorem aZ (hi:i<xs.length):(bo e xs z i)[i]? =some z:=by
 unfold bo;rw[QaB (by simp[Nat.min_le_left]),List.getElem?_replicate,if_pos (by simp;omega)]
theorem cS {t n:Nat} (hi:i<xs.length) (hz:(e xs[i]).length=z.length):
 some (AO.row t n ((bo e xs z i).set i (dW z 0 (e xs[i]))))=some (AO.row t n (bo e xs z (i+1))):=by
 congr 2
 unfold bo dW;simp only[List.take_zero,List.nil_append,QaF];rw[hz,List.drop_length,Qas,List.set_append_right _ _ (by simp[Nat.min_le_left]),Qac,Qai,Nat.min_eq_left (by omega),Nat.sub_self];rw[show xs.length - i=(xs.length - (i+1))+1 from by omega,List.replicate_succ,List.set_cons_zero];rw[Qak hi,Qay];simp
theorem cT (h:xs.length≤i) (hi:i≤xs.length):bo e xs z i=xs.map e:=by
 unfold bo;rw[QaM h,show xs.length - i=0 from by omega];simp
end
theorem aM {α:Type} {p:α→Bool} {s:List α} {i:Nat} (h:i<s.length):(s.drop i).all p=(p s[i]&&(s.drop (i+1)).all p):=by
 rw[Qad h,List.all_cons]
theorem cJ {α:Type} {p:α→Bool} {s:List α} {i:Nat} (h:s.length≤i):(s.drop i).all p=true:=by
 rw[Qae h];rfl
theorem fY {α:Type} {p:α→Bool} {s:List α} {i:Nat} (h:i<s.length):(s.drop i).any p=(p s[i]||(s.drop (i+1)).any p):=by
 rw[Qad h,QaC]
theorem jb {α:Type} {p:α→Bool} {s:List α} {i:Nat} (h:s.length≤i):(s.drop i).any p=false:=by
 rw[Qae h];rfl
end Go.Vc
end
section
namespace Go.Vc
open Go.Proofs Go.Proofs.YteongcjplmbkgaaGreatDoor
def dy (S:TypeId→List D→Prop):List TypeId→List D→Prop
 |[],ds=>ds=[]
 |t::ts,ds=>∃a b,ds=a++b∧S t a∧dy S ts b
def cB (P:Program):Nat→TypeId→List D→Prop
 |0,_,_=>False
 |n+1,t,ds=>match P.underlying t with
  |some .bool=>∃b,ds=[.bool b]
  |some (.int k)=>∃i,ds=[.int k i]
  |some .string=>∃s,ds=[.str s]
  |some (.slice e)=>∃rows,ds=[.list rows]∧∀r∈rows,cB P n e r
  |some (.struct fs)=>dy (cB P n) (fs.toList.map (·.type)) ds
  |_=>False
def DN (P:Program) (t:TypeId):Option (List TypeId):=match P.underlying t with
 |some (.struct fs)=>some (fs.toList.map (·.type))
 |_=>none
theorem bS {P:Program} {n:Nat} {t:TypeId} {ts:List TypeId} {ds:List D} (hf:DN P t=some ts) (h:cB P (n+1) t ds):dy (cB P n) ts ds:=by
 unfold DN at hf;unfold cB at h;split at hf
 ·rename_i fs hu
  rw[hu] at h;rw[←Option.some.inj hf];exact h
 ·cases hf
def qv (P:Program):Nat→List Field→Option Nat
 |o,[]=>some o
 |o,f::fs=>bif Nat.beq f.offset o then qv P (o+P.cellsOf f.type) fs else none
def ka (P:Program):Nat→TypeId→Bool
 |0,_=>false
 |n+1,t=>match P.underlying t with
  |some .bool=>true
  |some (.int _)=>true
  |some .string=>true
  |some (.slice e)=>ka P n e
  |some (.struct fs)=>(qv P 0 fs.toList==some (P.cellsOf t))&&fs.toList.all fun f=>ka P n f.type
  |_=>false
theorem tJ {α β:Type} {f:α→Option β}:∀{l:List α} {xs:List β},l.mapM f=some xs→xs.length=l.length∧∀(i:Nat) (h:i<l.length) (h':i<xs.length),f l[i]=some xs[i]
 |[],xs,h=>by
  rw[List.mapM_nil] at h;obtain rfl:[]=xs:=Option.some.inj h
  exact ⟨rfl,fun i h=>by simp at h⟩
 |a::l,xs,h=>by
  rw[QaO] at h
  cases ha:f a with
  |none=>rw[ha] at h;cases h
  |some b=>
   rw[ha] at h
   cases hl:l.mapM f with
   |none=>rw[hl] at h;cases h
   |some ys=>
    rw[hl] at h;obtain rfl:b::ys=xs:=Option.some.inj h;obtain ⟨h1,h2⟩:=tJ hl;refine ⟨by simp[h1],fun i h h'=>?_⟩
    cases i with
    |zero=>exact ha
    |succ i=>exact h2 i (by simpa using h) (by simpa using h')
theorem He {H:Type} (d:DataW H):1≤Rows.uptoBulk d:=by
 cases d with
 |lit l=>cases l<;>simp[Rows.uptoBulk]
 |_=>simp[Rows.uptoBulk]
theorem Bk {H:Type}:∀{l:List (DataW H)},l.length≤Rows.uptoBulkAll l
 |[]=>Qaj _
 |x::r=>by
  have:=Bk (l:=r);have:=He x;simp only[Rows.uptoBulkAll,QaV];omega
theorem Hb {w:World} {base n:Nat} {a:Addr} {cs:List Value} (h:w.cells? base a n=some cs):cs.length=n∧∀(i:Nat) v,cs[i]? =some v→w.cell? (a.add i)=some v:=by
 unfold World.cells? at h;split at h
 ·obtain ⟨h1,h2⟩:=tJ h
  rw[QaE] at h1;refine ⟨h1,fun i v hv=>?_⟩;obtain ⟨hi,e⟩:=List.getElem?_eq_some_iff.1 hv;have:=h2 i (by rw[QaE];omega) hi;rw[List.getElem_range,e] at this;exact this
 ·cases h
theorem El {w:World} {a:Addr} {v:Value} (h:w.cell? a=some v):a.spot=none:=by
 unfold World.cell? at h;split at h
 ·cases hs:a.spot with
  |none=>rfl
  |some s=>rw[hs] at h;simp at h
 ·cases h
theorem Hs {a:Addr} (h:a.spot=none) (n:Nat):a.add n=⟨a.block,a.off+n,none⟩:=by
 unfold Addr.add;split
 ·subst n;cases a;simp_all
 ·rfl
theorem Db {w:World} {b o sz:Nat}:∀{rows:List (List Value)} {k:Nat},(∀r∈rows,r.length=sz)→(∀(i:Nat) (h:i<rows.length) (j:Nat) v,rows[i][j]? =some v→w.cell? ⟨b,o+((k+i)*sz+j),none⟩=some v)→
 ∀(j:Nat) v,rows.flatten[j]? =some v→w.cell? ⟨b,o+(k*sz+j),none⟩=some v
 |[],_,_,_,j,v,h=>by simp at h
 |r::rs,k,hl,hc,j,v,h=>by
  rw[Qat] at h;have hr:=hl r Qap;by_cases hj:j<r.length
  ·rw[List.getElem?_append_left hj] at h
   have:=hc 0 (by simp) j v h;rw[Nat.add_zero] at this;exact this
  ·rw[QaB (by omega)] at h
   have:=Db (k:=k+1) (fun r hr=>hl r (Qaq _ hr)) (fun i h j v hv=>by
    have:=hc (i+1) (by simpa using h) j v hv;rw[show k+1+i=k+(i+1) from by omega];exact this) (j - r.length) v h
   rw[show o+(k*sz+j)=o+((k+1)*sz+(j - r.length)) from by rw[Nat.add_mul];omega];exact this
section
variable {H:Type} {enc:TypeId×Value→H} {P:Program} {w:World} {base:Nat} {spare:Nat→Bool} {held:Bool}
theorem wN {n fuel:Nat} {cs:List Value} (ih:∀{t:TypeId} {c:List Value} {d:DataW H} {ps:List MemPlace},ka P n t=true→DataW.trod enc P w base spare held fuel t c=some (d,ps)→Rows.uptoBulk d≤big→∃ds,Rd w (fun _=>False) ds c∧cB P n t ds):
 ∀{fs:List Field} {o e:Nat} {xs:List (DataW H×List MemPlace)},qv P o fs=some e→(∀f∈fs,ka P n f.type=true)→o≤cs.length→e=cs.length→
  (fs.mapM fun f=>DataW.trod enc P w base spare held fuel f.type ((cs.drop f.offset).take (P.cellsOf f.type)))=some xs→Rows.uptoBulkAll (xs.map (·.1))≤big→
  ∃ds,Rd w (fun _=>False) ds (cs.drop o)∧dy (cB P n) (fs.map (·.type)) ds
 |[],o,e,xs,ht,_,_,he,_,_=>by
  simp only[qv,Qau] at ht;refine ⟨[],?_,rfl⟩
  rw[Qae (by omega)];exact .nil
 |f::fs,o,e,xs,ht,hp,ho,he,hx,hb=>by
  simp only[qv] at ht
  cases hq:Nat.beq f.offset o with
  |false=>rw[hq] at ht;cases ht
  |true=>
   rw[hq] at ht;have hoff:=QaP hq;subst hoff;rw[QaO] at hx
   cases h1:DataW.trod enc P w base spare held fuel f.type ((cs.drop f.offset).take (P.cellsOf f.type)) with
   |none=>rw[h1] at hx;cases hx
   |some x=>
    rw[h1] at hx
    cases h2:(fs.mapM fun f=>DataW.trod enc P w base spare held fuel f.type ((cs.drop f.offset).take (P.cellsOf f.type))) with
    |none=>rw[h2] at hx;cases hx
    |some ys=>
     rw[h2] at hx;obtain rfl:x::ys=xs:=Option.some.inj hx;simp only[Qam,Rows.uptoBulkAll] at hb;obtain ⟨d1,r1,s1⟩:=ih (hp f Qap) h1 (by omega)
     have hmono:∀{fs:List Field} {o e:Nat},qv P o fs=some e→o≤e:=by
      intro fs
      induction fs with
      |nil=>intro o e h;simp only[qv,Qau] at h;omega
      |cons g gs ihg=>
       intro o e h;simp only[qv] at h
       cases hq:Nat.beq g.offset o with
       |false=>rw[hq] at h;cases h
       |true=>rw[hq] at h;have:=ihg h;omega
     have hle:=hmono ht;obtain ⟨d2,r2,s2⟩:=wN ih ht (fun g hg=>hp g (Qaq _ hg)) (by omega) he h2 (by omega);refine ⟨d1++d2,?_,d1,d2,rfl,s1,s2⟩;have:=r1.append r2;rw[Nat.add_comm,←QaQ,QaQ,Nat.add_comm,←QaQ] at this
     rwa [List.take_append_drop] at this
theorem Ee {fuel:Nat} {t:TypeId} {c:List Value} {x:DataW H×List MemPlace} (hu:P.underlying t=some .bool) (h:DataW.trod enc P w base spare held (fuel+1) t c=some x):∃b,c=[.bool b]:=by
 unfold DataW.trod at h;rw[hu] at h;split at h
 case h_1=>exact ⟨_,rfl⟩
 all_goals (first|(rename_i e;cases e;done)|(rename_i e _;cases e;done)|(rename_i e _ _;cases e;done)|(cases h;done)|simp_all)
theorem FI {fuel:Nat} {t:TypeId} {k:IntKind} {c:List Value} {x:DataW H×List MemPlace} (hu:P.underlying t=some (.int k)) (h:DataW.trod enc P w base spare held (fuel+1) t c=some x):∃i,c=[.int k i]:=by
 unfold DataW.trod at h;rw[hu] at h;split at h
 case h_2=>
  rename_i e;cases e;split at h
  ·rename_i hk
   obtain ⟨rfl,_⟩:=hk;exact ⟨_,rfl⟩
  ·cases h
 all_goals (first|(rename_i e;cases e;done)|(rename_i e _;cases e;done)|(rename_i e _ _;cases e;done)|(cases h;done)|simp_all)
theorem zx {fuel:Nat} {t:TypeId} {c:List Value} {x:DataW H×List MemPlace} (hu:P.underlying t=some .string) (h:DataW.trod enc P w base spare held (fuel+1) t c=some x):∃s:ByteArray,c=[.string s]∧x.1= .lit (.string s.data.toList):=by
 unfold DataW.trod at h;rw[hu] at h;split at h
 case h_4=>
  split at h
  ·have:=Option.some.inj h
   subst this;exact ⟨_,rfl,rfl⟩
  ·cases h
 all_goals (first|(rename_i e;cases e;done)|(rename_i e _;cases e;done)|(rename_i e _ _;cases e;done)|(cases h;done)|simp_all)
theorem BD {fuel:Nat} {t e:TypeId} {c:List Value} {x:DataW H×List MemPlace} (hu:P.underlying t=some (.slice e)) (h:DataW.trod enc P w base spare held (fuel+1) t c=some x):
 c=[.slice none 0 0]∨∃(a:Addr) (len cap:Nat) (es:List (DataW H×List MemPlace)) (sp:List (DataW H)),c=[.slice (some a) len cap]∧len≤cap∧x.1= .slice (es.map (·.1)) sp∧
  (List.range len).mapM (fun i=>(w.cells? base (a.add (i*P.cellsOf e)) (P.cellsOf e)).bind (DataW.trod enc P w base spare held fuel e))=some es:=by
 unfold DataW.trod at h;rw[hu] at h;split at h
 case h_7=>exact .inl rfl
 case h_8=>
  rename_i e1;cases e1
  dsimp only at h
  split at h
  ·rename_i hb
   rw[QaJ] at h;obtain ⟨es,h1,h2⟩:=h;rw[QaN] at h2;obtain ⟨rest,_,h3⟩:=h2;subst h3;exact .inr ⟨_,_,_,es,_,rfl,hb.2.1,rfl,h1⟩
  ·cases h
 all_goals (first|(rename_i e;cases e;done)|(rename_i e _;cases e;done)|(rename_i e _ _;cases e;done)|(cases h;done)|simp_all)
theorem zy {fuel:Nat} {t:TypeId} {fs:Array Field} {c:List Value} {x:DataW H×List MemPlace} (hu:P.underlying t=some (.struct fs)) (h:DataW.trod enc P w base spare held (fuel+1) t c=some x):
 c.length=P.cellsOf t∧∃xs,(fs.toList.mapM fun f=>DataW.trod enc P w base spare held fuel f.type ((c.drop f.offset).take (P.cellsOf f.type)))=some xs∧x.1= .agg (xs.map (·.1)):=by
 unfold DataW.trod at h;rw[hu] at h;split at h
 case h_9=>
  rename_i e1;cases e1;split at h
  ·rename_i hl
   rw[QaN] at h;obtain ⟨xs,h1,h2⟩:=h;subst h2;exact ⟨hl,xs,h1,rfl⟩
  ·cases h
 all_goals (first|(rename_i e;cases e;done)|(rename_i e _;cases e;done)|(rename_i e _ _;cases e;done)|(cases h;done)|simp_all)
theorem Da {n fuel sz:Nat} {e:TypeId} {a:Addr} (ih:∀{t:TypeId} {c:List Value} {d:DataW H} {ps:List MemPlace},ka P n t=true→DataW.trod enc P w base spare held fuel t c=some (d,ps)→Rows.uptoBulk d≤big→∃ds,Rd w (fun _=>False) ds c∧cB P n t ds)
 (hp:ka P n e=true) (hsz:P.cellsOf e=sz):∀{len k:Nat} {es:List (DataW H×List MemPlace)},
 ((List.range len).map (k+ ·)).mapM (fun i=>(w.cells? base (a.add (i*sz)) sz).bind (DataW.trod enc P w base spare held fuel e))=some es→Rows.uptoBulkAll (es.map (·.1))≤big→
 ∃(rows:List (List D)) (cells:List (List Value)),rows.length=len∧cells.length=len∧Rd w (fun _=>False) rows.flatten cells.flatten∧(∀r∈rows,r.length=sz∧cB P n e r)∧(∀c∈cells,c.length=sz)∧
  ∀(i:Nat) (h:i<cells.length) (j:Nat) v,cells[i][j]? =some v→w.cell? ((a.add ((k+i)*sz)).add j)=some v
 |0,k,es,h,hb=>⟨[],[],rfl,rfl,.nil,(fun _ h=>by cases h),(fun _ h=>by cases h),fun i h=>by simp at h⟩
 |len+1,k,es,h,hb=>by
  rw[List.range_succ_eq_map,Qam,QaO,List.map_map] at h;rw[Nat.add_zero] at h
  cases h1:(w.cells? base (a.add (k*sz)) sz).bind (DataW.trod enc P w base spare held fuel e) with
  |none=>rw[h1] at h;cases h
  |some x=>
   rw[h1] at h;have he:(fun i=>k+i)∘Nat.succ=fun i=>(k+1)+i:=by funext i;simp only[Function.comp];omega
   have he':((fun x=>k+x)∘Nat.succ)=fun i=>(k+1)+i:=he;rw[he'] at h
   cases h2:((List.range len).map (fun i=>(k+1)+i)).mapM (fun i=>(w.cells? base (a.add (i*sz)) sz).bind (DataW.trod enc P w base spare held fuel e)) with
   |none=>rw[h2] at h;cases h
   |some ys=>
    rw[h2] at h;obtain rfl:x::ys=es:=Option.some.inj h;simp only[Qam,Rows.uptoBulkAll] at hb;rw[QaJ] at h1;obtain ⟨c,hc,ht⟩:=h1;obtain ⟨hl,hcell⟩:=Hb hc;obtain ⟨d1,r1,s1⟩:=ih (d:=x.1) (ps:=x.2) hp ht (by omega);obtain ⟨rows,cells,g1,g2,g3,g4,g5,g6⟩:=Da ih hp hsz (k:=k+1) h2 (by omega);refine ⟨d1::rows,c::cells,by simp[g1],by simp[g2],?_,?_,?_,?_⟩
    ·rw[Qat,Qat];exact r1.append g3
    ·intro r hr
     rcases List.mem_cons.1 hr with q|q
     ·subst q;exact ⟨by rw[←r1.length,hl],s1⟩
     ·exact g4 r q
    ·intro r hr
     rcases List.mem_cons.1 hr with q|q
     ·subst q;exact hl
     ·exact g5 r q
    ·intro i hi j v hv
     cases i with
     |zero=>exact hcell j v hv
     |succ i=>
      have:=g6 i (by simpa using hi) j v hv;rw[show k+1+i=k+(i+1) from by omega] at this;exact this
theorem rE:∀{n:Nat} {fuel:Nat} {t:TypeId} {c:List Value} {d:DataW H} {ps:List MemPlace},ka P n t=true→DataW.trod enc P w base spare held fuel t c=some (d,ps)→Rows.uptoBulk d≤big→
 ∃ds,Rd w (fun _=>False) ds c∧cB P n t ds
 |0,_,_,_,_,_,h,_,_=>by simp[ka] at h
 |_+1,0,_,_,_,_,_,h,_=>by simp[DataW.trod] at h
 |n+1,fuel+1,t,c,d,ps,hp,h,hb=>by
  unfold ka at hp;unfold cB;split at hp
  ·rename_i hu
   obtain ⟨b,rfl⟩:=Ee hu h;exact ⟨_,.bool b .nil,b,rfl⟩
  ·rename_i hu
   obtain ⟨i,rfl⟩:=FI hu h;exact ⟨_,.int _ i .nil,i,rfl⟩
  ·rename_i hu
   obtain ⟨s,rfl,hx⟩:=zx hu h;refine ⟨[.str s.data.toList],?_,_,rfl⟩;have hx':d= .lit (.string s.data.toList):=hx;rw[hx'] at hb;simp only[Rows.uptoBulk] at hb;have:Rd w (fun _=>False) [.str s.data.toList] [.string (fI s.data.toList)]:= .str _ (by omega) .nil;exact this
  ·rename_i e hu
   rcases BD hu h with rfl|⟨a,len,cap,es,sp,rfl,hle,hx,hm⟩
   ·exact ⟨[.list []],.list [] none 0 0 [] .nil (by simp) (.inl rfl) (Nat.le_refl _) (Qaj _) .nil,[],rfl,fun _ h=>by cases h⟩
   ·have hx':d= .slice (es.map (·.1)) sp:=hx
    rw[hx'] at hb;simp only[Rows.uptoBulk] at hb
    obtain ⟨rows,cells,g1,g2,g3,g4,g5,g6⟩:=Da (P:=P) (a:=a) (len:=len) (k:=0) (es:=es) (fun hp ht hb=>rE hp ht hb) hp rfl (by
     have:(List.range len).map (0+ ·)=List.range len:=by simp
     rw[this];exact hm) (by omega)
    have hlen:len≤big:=by
     have h1:=(tJ hm).1;rw[QaE] at h1;have:=Bk (l:=es.map (·.1));rw[Qac] at this;omega
    refine ⟨[.list rows],?_,rows,rfl,fun r hr=>(g4 r hr).2⟩;rw[←g1];refine .list rows (some a) cap (P.cellsOf e) cells.flatten g3 (fun r hr=>(g4 r hr).1) ?_ (by omega) (by omega) .nil;by_cases hne:cells.flatten=[]
    ·exact .inl hne
    ·have hsp:a.spot=none:=by
      cases hc:cells with
      |nil=>rw[hc] at hne;exact absurd rfl hne
      |cons c0 cs=>
       have hl0:c0.length=P.cellsOf e:=g5 c0 (by rw[hc];exact Qap)
       have hpos:0<P.cellsOf e:=by
        refine Nat.pos_of_ne_zero fun hz=>hne ?_;rw[List.flatten_eq_nil_iff];intro l hl;exact List.eq_nil_of_length_eq_zero (by rw[g5 l hl,hz])
       have:=g6 0 (by rw[hc];simp) 0 (c0[0]'(by omega)) (by simp only[hc,List.getElem_cons_zero];rw[Qaf]);rw[QaF,Nat.zero_mul] at this;exact El this
     refine .inr ⟨a.block,a.off,by rw[show a=⟨a.block,a.off,none⟩ from by cases a;simp_all],fun h=>h,fun j v hv=>?_⟩
     have:=Db (w:=w) (b:=a.block) (o:=a.off) (sz:=P.cellsOf e) (rows:=cells) (k:=0) g5 (fun i hi j v hv=>by
      have:=g6 i hi j v hv;rw[Hs hsp,Hs (by rfl),Nat.add_assoc] at this;exact this) j v hv
     rw[Nat.zero_mul,QaF] at this;exact this
  ·rename_i fs hu
   obtain ⟨hl,xs,hm,hx⟩:=zy hu h;have hx':d= .agg (xs.map (·.1)):=hx;rw[hx'] at hb;simp only[Rows.uptoBulk] at hb;simp only[Qag,beq_iff_eq,QaW] at hp;obtain ⟨ds,r1,s1⟩:=wN (P:=P) (cs:=c) (fun hp ht hb=>rE hp ht hb) hp.1 hp.2 (Qaj _) hl.symm hm (by omega);exact ⟨ds,r1,s1⟩
  ·cases hp
end
def AL (P:Program) (t:TypeId):Bool:=match P.underlying t with
 |some (.struct _)=>true
 |_=>false
theorem sN {P:Program} {t:TypeId} (h:AL P t=true):∃fs,P.underlying t=some (.struct fs):=by
 unfold AL at h;split at h
 ·rename_i fs hu;exact ⟨fs,hu⟩
 ·cases h
theorem Hr {P:Program} {w:World} {base:Nat} {t:TypeId} {fs:Array Field} {v:Value} (hu:P.underlying t=some (.struct fs)) (h:Value.okWide P w .any base t v):∃cs,v= .agg cs:=by
 unfold Value.okWide at h;rw[hu] at h;obtain ⟨cs,e,_⟩:=h;exact ⟨cs,e⟩
end Go.Vc
end
section
namespace Go.Vc
open Go.Proofs Go.Proofs.YteongcjplmbkgaaGreatDoor
mutual
def D.pl:D→Prop
 | .int _ _=>True
 | .bool _=>True
 | .str _=>True
 | .list rows=>yb rows
 | .fn _=>True
 | .raw _=>False
termination_by structural x=>x
def yb:List (List D)→Prop
 |[]=>True
 |r::rs=>jB r∧yb rs
termination_by structural x=>x
def jB:List D→Prop
 |[]=>True
 |d::ds=>d.pl∧jB ds
termination_by structural x=>x
end
theorem oD {xs ys:List D}:jB (xs++ys)↔jB xs∧jB ys:=by
 induction xs with
 |nil=>simp[jB]
 |cons x xs ih=>simp only[QaX,jB,ih,and_assoc]
theorem ll:∀{rows:List (List D)},yb rows→jB rows.flatten
 |[],_=>trivial
 |r::rs,h=>by
  rw[Qat,oD];exact ⟨h.1,ll h.2⟩
theorem tn:∀{rows:List (List D)},(∀r∈rows,jB r)→yb rows
 |[],_=>trivial
 |r::rs,h=>⟨h r Qap,tn fun x hx=>h x (Qaq _ hx)⟩
theorem nV {P:Program}:∀{n:Nat} {t:TypeId} {ds:List D},cB P n t ds→jB ds
 |0,_,_,h=>h.elim
 |n+1,t,ds,h=>by
  unfold cB at h;split at h
  ·obtain ⟨b,rfl⟩:=h;exact ⟨trivial,trivial⟩
  ·obtain ⟨b,rfl⟩:=h;exact ⟨trivial,trivial⟩
  ·obtain ⟨b,rfl⟩:=h;exact ⟨trivial,trivial⟩
  ·obtain ⟨rows,rfl,h⟩:=h
   exact ⟨tn fun r hr=>nV (h r hr),trivial⟩
  ·rename_i fs hu
   have key:∀(ts:List TypeId) (ds:List D),dy (cB P n) ts ds→jB ds:=by
    intro ts
    induction ts with
    |nil=>intro ds h;rw[show ds=[] from h];trivial
    |cons t ts ih=>
     rintro ds ⟨a,b,rfl,h1,h2⟩;rw[oD];exact ⟨nV h1,ih _ h2⟩
   exact key _ _ h
  ·exact h.elim
theorem wZ {w:World} {N:Nat→Prop} (hI:∀b,N b→∀off v,w.cell? ⟨b,off,none⟩=some v→∃t u,v= .iface t u) {ds:List D} {cs:List Value} (h:Rd w (fun _=>False) ds cs):jB ds→Rd w N ds cs:=by
 induction h with
 |nil=>intro _;exact .nil
 |int a b _ ih=>intro hp;exact .int a b (ih hp.2)
 |bool b _ ih=>intro hp;exact .bool b (ih hp.2)
 |str s hs _ ih=>intro hp;exact .str s hs (ih hp.2)
 |fn f _ ih=>intro hp;exact .fn f (ih hp.2)
 |raw v _ _ _=>intro hp;exact hp.1.elim
 |list rows A cap sz cells h1 h2 h3 h4 h5 _ ih1 ih2=>
  intro hp;have hr:jB rows.flatten:=ll hp.1;refine .list rows A cap sz cells (ih1 hr) h2 ?_ h4 h5 (ih2 hp.2);rcases h3 with h3|⟨b,o,rfl,_,hc⟩
  ·exact .inl h3
  ·cases cells with
   |nil=>exact .inl rfl
   |cons c0 cs=>
    refine .inr ⟨b,o,rfl,fun hN=>?_,hc⟩;obtain ⟨t,u,rfl⟩:=hI b hN _ _ (hc 0 _ rfl)
    cases hq:rows.flatten with
    |nil=>rw[hq] at h1;cases h1
    |cons d ds=>
     rw[hq] at h1 hr
     cases h1 with
     |raw _ _ _=>exact hr.1
def IH:Nat→Prop:=fun b=>∃p∈LG,p.1=b
structure LgOk (w:World):Prop where
 lw:LwOk IH w
 ifc:∀b,IH b→∀off v,w.cell? ⟨b,off,none⟩=some v→∃t u,v= .iface t u
theorem LgOk.bnd {w:World} (h:LgOk w):∀b,IH b→b<w.heap.size:=by
 rintro b ⟨p,hp,rfl⟩;exact cell?_lt (h.lw p hp).2
end Go.Vc
end
section
namespace Go.Vc
open Go.Proofs
set_option maxRecDepth 100000
theorem C9 {α:Type} {e:α→List D}:∀{rows:List (List D)},(∀r∈rows,∃x,r=e x)→∃xs:List α,rows=xs.map e
 |[],_=>⟨[],rfl⟩
 |r::rs,h=>by
  obtain ⟨x,hx⟩:=h r Qap;obtain ⟨xs,hxs⟩:=C9 fun r hr=>h r (Qaq _ hr);exact ⟨x::xs,by rw[hx,hxs];rfl⟩
theorem dT {α:Type} {e:α→List D} {P:Program} {n:Nat} {t u:TypeId} {ds:List D} (hu:P.underlying t=some (.slice u)) (he:∀{n:Nat} {ds:List D},cB P n u ds→∃x,ds=e x) (h:cB P n t ds):∃xs:List α,ds=[.list (xs.map e)]:=by
 cases n with
 |zero=>exact h.elim
 |succ n=>
  unfold cB at h;rw[hu] at h;obtain ⟨rows,rfl,hr⟩:=h;obtain ⟨xs,hxs⟩:=C9 fun r hrr=>he (hr r hrr);exact ⟨xs,by rw[hxs]⟩
theorem fL {n:Nat} {ds:List D} (h:cB P n 3 ds):∃x:Int,ds=eN x:=by
 cases n with
 |zero=>exact h.elim
 |succ n=>
  unfold cB at h;rw[show P.underlying 3=some (.int .i64) from by kernel_rfl] at h;exact h
theorem aJ {n:Nat} {ds:List D} (h:cB P n 9 ds):∃x:Bs,ds=eB x:=by
 cases n with
 |zero=>exact h.elim
 |succ n=>
  unfold cB at h;rw[show P.underlying 9=some .string from by kernel_rfl] at h;exact h
theorem xr {n:Nat} {ds:List D} (h:cB P n 4 ds):∃x:Bool,ds=[.bool x]:=by
 cases n with
 |zero=>exact h.elim
 |succ n=>
  unfold cB at h;rw[show P.underlying 4=some .bool from by kernel_rfl] at h;exact h
theorem xx {n:Nat} {ds:List D} (h:cB P n 237 ds):∃x:GateField,ds=x.e:=by
 cases n with
 |zero=>exact h.elim
 |succ n=>
  have h:=bS (P:=P) (t:=237) (ts:=[9,3,3,3,101,9,3,4,4,9,9]) (by kernel_rfl) h;simp only[dy] at h;obtain ⟨a0,b0,rfl,h0,⟨a1,b1,rfl,h1,⟨a2,b2,rfl,h2,⟨a3,b3,rfl,h3,⟨a4,b4,rfl,h4,⟨a5,b5,rfl,h5,⟨a6,b6,rfl,h6,⟨a7,b7,rfl,h7,⟨a8,b8,rfl,h8,⟨a9,b9,rfl,h9,⟨a10,b10,rfl,h10,rfl⟩⟩⟩⟩⟩⟩⟩⟩⟩⟩⟩:=h;obtain ⟨x0,rfl⟩:=aJ h0;obtain ⟨x1,rfl⟩:=fL h1;obtain ⟨x2,rfl⟩:=fL h2;obtain ⟨x3,rfl⟩:=fL h3;obtain ⟨x4,rfl⟩:=(dT (e:=eB) (show P.underlying 101=some (.slice 9) from by kernel_rfl) aJ) h4;obtain ⟨x5,rfl⟩:=aJ h5;obtain ⟨x6,rfl⟩:=fL h6;obtain ⟨x7,rfl⟩:=xr h7;obtain ⟨x8,rfl⟩:=xr h8;obtain ⟨x9,rfl⟩:=aJ h9;obtain ⟨x10,rfl⟩:=aJ h10;exact ⟨⟨x0,x1,x2,x3,x4,x5,x6,x7,x8,x9,x10⟩,rfl⟩
theorem xu {n:Nat} {ds:List D} (h:cB P n 142 ds):∃x:GateShape,ds=x.e:=by
 cases n with
 |zero=>exact h.elim
 |succ n=>
  have h:=bS (P:=P) (t:=142) (ts:=[9,140]) (by kernel_rfl) h;simp only[dy] at h;obtain ⟨a0,b0,rfl,h0,⟨a1,b1,rfl,h1,rfl⟩⟩:=h;obtain ⟨x0,rfl⟩:=aJ h0;obtain ⟨x1,rfl⟩:=(dT (e:=GateField.e) (show P.underlying 140=some (.slice 237) from by kernel_rfl) xx) h1;exact ⟨⟨x0,x1⟩,rfl⟩
theorem zu {n:Nat} {ds:List D} (h:cB P n 145 ds):∃x:GateMend,ds=x.e:=by
 cases n with
 |zero=>exact h.elim
 |succ n=>
  have h:=bS (P:=P) (t:=145) (ts:=[9,9,9,9,9,9]) (by kernel_rfl) h;simp only[dy] at h;obtain ⟨a0,b0,rfl,h0,⟨a1,b1,rfl,h1,⟨a2,b2,rfl,h2,⟨a3,b3,rfl,h3,⟨a4,b4,rfl,h4,⟨a5,b5,rfl,h5,rfl⟩⟩⟩⟩⟩⟩:=h;obtain ⟨x0,rfl⟩:=aJ h0;obtain ⟨x1,rfl⟩:=aJ h1;obtain ⟨x2,rfl⟩:=aJ h2;obtain ⟨x3,rfl⟩:=aJ h3;obtain ⟨x4,rfl⟩:=aJ h4;obtain ⟨x5,rfl⟩:=aJ h5;exact ⟨⟨x0,x1,x2,x3,x4,x5⟩,rfl⟩
theorem zr {n:Nat} {ds:List D} (h:cB P n 148 ds):∃x:GateTeam,ds=x.e:=by
 cases n with
 |zero=>exact h.elim
 |succ n=>
  have h:=bS (P:=P) (t:=148) (ts:=[9,9]) (by kernel_rfl) h;simp only[dy] at h;obtain ⟨a0,b0,rfl,h0,⟨a1,b1,rfl,h1,rfl⟩⟩:=h;obtain ⟨x0,rfl⟩:=aJ h0;obtain ⟨x1,rfl⟩:=aJ h1;exact ⟨⟨x0,x1⟩,rfl⟩
theorem BC {n:Nat} {ds:List D} (h:cB P n 26 ds):∃x:GateLaw,ds=x.e:=by
 cases n with
 |zero=>exact h.elim
 |succ n=>
  have h:=bS (P:=P) (t:=26) (ts:=[22,23,24]) (by kernel_rfl) h;simp only[dy] at h;obtain ⟨a0,b0,rfl,h0,⟨a1,b1,rfl,h1,⟨a2,b2,rfl,h2,rfl⟩⟩⟩:=h;obtain ⟨x0,rfl⟩:=(dT (e:=GateShape.e) (show P.underlying 22=some (.slice 142) from by kernel_rfl) xu) h0;obtain ⟨x1,rfl⟩:=(dT (e:=GateMend.e) (show P.underlying 23=some (.slice 145) from by kernel_rfl) zu) h1;obtain ⟨x2,rfl⟩:=(dT (e:=GateTeam.e) (show P.underlying 24=some (.slice 148) from by kernel_rfl) zr) h2;exact ⟨⟨x0,x1,x2⟩,rfl⟩
theorem uJ {n:Nat} {ds:List D} (h:cB P n 150 ds):∃x:GateObject,ds=x.e:=by
 cases n with
 |zero=>exact h.elim
 |succ n=>
  have h:=bS (P:=P) (t:=150) (ts:=[9,9,9,101,4,101,3]) (by kernel_rfl) h;simp only[dy] at h;obtain ⟨a0,b0,rfl,h0,⟨a1,b1,rfl,h1,⟨a2,b2,rfl,h2,⟨a3,b3,rfl,h3,⟨a4,b4,rfl,h4,⟨a5,b5,rfl,h5,⟨a6,b6,rfl,h6,rfl⟩⟩⟩⟩⟩⟩⟩:=h;obtain ⟨x0,rfl⟩:=aJ h0;obtain ⟨x1,rfl⟩:=aJ h1;obtain ⟨x2,rfl⟩:=aJ h2;obtain ⟨x3,rfl⟩:=(dT (e:=eB) (show P.underlying 101=some (.slice 9) from by kernel_rfl) aJ) h3;obtain ⟨x4,rfl⟩:=xr h4;obtain ⟨x5,rfl⟩:=(dT (e:=eB) (show P.underlying 101=some (.slice 9) from by kernel_rfl) aJ) h5;obtain ⟨x6,rfl⟩:=fL h6;exact ⟨⟨x0,x1,x2,x3,x4,x5,x6⟩,rfl⟩
theorem zt {n:Nat} {ds:List D} (h:cB P n 153 ds):∃x:GateRule,ds=x.e:=by
 cases n with
 |zero=>exact h.elim
 |succ n=>
  have h:=bS (P:=P) (t:=153) (ts:=[35,9,9,9]) (by kernel_rfl) h;simp only[dy] at h;obtain ⟨a0,b0,rfl,h0,⟨a1,b1,rfl,h1,⟨a2,b2,rfl,h2,⟨a3,b3,rfl,h3,rfl⟩⟩⟩⟩:=h;obtain ⟨x0,rfl⟩:=(dT (e:=eN) (show P.underlying 35=some (.slice 3) from by kernel_rfl) fL) h0;obtain ⟨x1,rfl⟩:=aJ h1;obtain ⟨x2,rfl⟩:=aJ h2;obtain ⟨x3,rfl⟩:=aJ h3;exact ⟨⟨x0,x1,x2,x3⟩,rfl⟩
theorem xw {n:Nat} {ds:List D} (h:cB P n 155 ds):∃x:GateGrant,ds=x.e:=by
 cases n with
 |zero=>exact h.elim
 |succ n=>
  have h:=bS (P:=P) (t:=155) (ts:=[3,9,9,153]) (by kernel_rfl) h;simp only[dy] at h;obtain ⟨a0,b0,rfl,h0,⟨a1,b1,rfl,h1,⟨a2,b2,rfl,h2,⟨a3,b3,rfl,h3,rfl⟩⟩⟩⟩:=h;obtain ⟨x0,rfl⟩:=fL h0;obtain ⟨x1,rfl⟩:=aJ h1;obtain ⟨x2,rfl⟩:=aJ h2;obtain ⟨x3,rfl⟩:=zt h3;exact ⟨⟨x0,x1,x2,x3⟩,rfl⟩
theorem uK {n:Nat} {ds:List D} (h:cB P n 157 ds):∃x:GateLedger,ds=x.e:=by
 cases n with
 |zero=>exact h.elim
 |succ n=>
  have h:=bS (P:=P) (t:=157) (ts:=[9,9,3,3]) (by kernel_rfl) h;simp only[dy] at h;obtain ⟨a0,b0,rfl,h0,⟨a1,b1,rfl,h1,⟨a2,b2,rfl,h2,⟨a3,b3,rfl,h3,rfl⟩⟩⟩⟩:=h;obtain ⟨x0,rfl⟩:=aJ h0;obtain ⟨x1,rfl⟩:=aJ h1;obtain ⟨x2,rfl⟩:=fL h2;obtain ⟨x3,rfl⟩:=fL h3;exact ⟨⟨x0,x1,x2,x3⟩,rfl⟩
theorem xv {n:Nat} {ds:List D} (h:cB P n 159 ds):∃x:GatePurse,ds=x.e:=by
 cases n with
 |zero=>exact h.elim
 |succ n=>
  have h:=bS (P:=P) (t:=159) (ts:=[9,9,9,3,3]) (by kernel_rfl) h;simp only[dy] at h;obtain ⟨a0,b0,rfl,h0,⟨a1,b1,rfl,h1,⟨a2,b2,rfl,h2,⟨a3,b3,rfl,h3,⟨a4,b4,rfl,h4,rfl⟩⟩⟩⟩⟩:=h;obtain ⟨x0,rfl⟩:=aJ h0;obtain ⟨x1,rfl⟩:=aJ h1;obtain ⟨x2,rfl⟩:=aJ h2;obtain ⟨x3,rfl⟩:=fL h3;obtain ⟨x4,rfl⟩:=fL h4;exact ⟨⟨x0,x1,x2,x3,x4⟩,rfl⟩
theorem zw {n:Nat} {ds:List D} (h:cB P n 32 ds):∃x:GateBook,ds=x.e:=by
 cases n with
 |zero=>exact h.elim
 |succ n=>
  have h:=bS (P:=P) (t:=32) (ts:=[3,3,3,27,28,29,30]) (by kernel_rfl) h;simp only[dy] at h;obtain ⟨a0,b0,rfl,h0,⟨a1,b1,rfl,h1,⟨a2,b2,rfl,h2,⟨a3,b3,rfl,h3,⟨a4,b4,rfl,h4,⟨a5,b5,rfl,h5,⟨a6,b6,rfl,h6,rfl⟩⟩⟩⟩⟩⟩⟩:=h;obtain ⟨x0,rfl⟩:=fL h0;obtain ⟨x1,rfl⟩:=fL h1;obtain ⟨x2,rfl⟩:=fL h2;obtain ⟨x3,rfl⟩:=(dT (e:=GateObject.e) (show P.underlying 27=some (.slice 150) from by kernel_rfl) uJ) h3;obtain ⟨x4,rfl⟩:=(dT (e:=GateGrant.e) (show P.underlying 28=some (.slice 155) from by kernel_rfl) xw) h4;obtain ⟨x5,rfl⟩:=(dT (e:=GateLedger.e) (show P.underlying 29=some (.slice 157) from by kernel_rfl) uK) h5;obtain ⟨x6,rfl⟩:=(dT (e:=GatePurse.e) (show P.underlying 30=some (.slice 159) from by kernel_rfl) xv) h6;exact ⟨⟨x0,x1,x2,x3,x4,x5,x6⟩,rfl⟩
end Go.Vc
end
section
namespace Go.Vc
open Go.Proofs Go.ChangeShapes Go.WideShapes Go.RowKit
section
variable {H:Type} {enc:TypeId×Value→H} {P:Program} {w w':World} {base:Nat} {sp:Nat→Bool} {held:Bool}
theorem mo:∀{ts:List TypeId} {vs:List Value} {ds:List (DataW H)} {ps:List MemPlace},DataW.TrodAll enc P w base sp held ts vs ds ps→(∀p∈ps,w.sameAt w' p)→DataW.TrodAll enc P w' base sp held ts vs ds ps
 |[],[],[],_,h,_=>h
 |_::_,_::_,_::_,_,⟨p,q,⟨n,h1⟩,h2,e⟩,hs=>⟨p,q,⟨n,DataW.trod_carry n _ _ _ h1 (fun x hx=>hs x (by rw[e];exact List.mem_append_left _ hx))⟩,mo h2 (fun x hx=>hs x (by rw[e];exact List.mem_append_right _ hx)),e⟩
theorem Kp.same (k:Kp (fun _=>False) w w') {p:MemPlace} (h:p.block<w.heap.size):w.sameAt w' p:=by
 have e:=k.blk p.block h (fun f=>f)
 cases p with
 |cell b off=>exact World.cell?_of_block (w:=w) (a:=⟨b,off,none⟩) e
 |map b=>exact e
theorem Kp.kept (k:Kp (fun _=>False) w w') (may:MemPlace→Prop):w.keptBut w' may:=by
 refine ⟨k.os,k.output,fun i hi=>?_⟩;rw[k.blk i hi (fun f=>f)];exact (World.keptBut_refl w may).2.2 i hi
theorem EK {f:Func} {s:ChangeSpec} {apart fresh handsOn again:Bool} {W W':World} {args:Array Value} {t:TypeId} {ds gs:List (DataW H)} {before:List MemPlace}
 (hl:laidOutB P=true) (hm:mapsRowed P=true) (hz:((List.range P.types.size).all fun t=>match P.underlying t with|some (.slice e)=>decide (0<P.cellsOf e)|_=>true)=true)
 (hpar:∀t∈f.params.toList,t<P.types.size) (hv:s.vars=[]) (hrt:f.resultTypes= #[t]) (htb:P.underlying t=some .bool)
 (hW:DataW.Whole enc P f.params.toList s.vars apart W args.toList ds gs before) (hk:Kp (fun _=>False) W W') (hfn:s.fn H ds={results:=[.lit (.bool true)],args:=ds}):
 s.post enc P f apart fresh handsOn again W args (.bool true) W':=by
 have hlt:=hW.lt;have hW0:=hW;obtain ⟨p,q,hA,hV,rfl,hfz,hnd⟩:=hW;rw[hv] at hV;obtain ⟨rfl,rfl⟩:=trodVars_none hV;rw[Qas] at hlt hfz hnd hW0
 have hargs:∀sp:Nat→Bool,(∀x∈p,sp x.block=true)→DataW.TrodAll enc P W' 0 sp true f.params.toList args.toList ds p:=fun sp hs=>
  DataW.TrodAll.respare (kids_rows hl hm) (fun t e ht hu=>slices_full_of P hz t e ht hu) hpar (mo hA (fun x hx=>hk.same (hlt x hx))) hs
 have hold:∀x∈p,(fun b=>decide (b<W.heap.size)) x.block=true:=fun x hx=>by simpa using hlt x hx
 have hres:∀(b:Nat) (sp:Nat→Bool) (hd:Bool),DataW.TrodAll enc P W' b sp hd f.resultTypes.toList ((Value.bool true).resultList f.resultTypes.size) [.lit (.bool true)] []:=by
  intro b sp hd;rw[hrt];exact trodAll_cons_mk (shut_bool htb _) trodAll_mk0
 refine ⟨ds,[],p,[],p,[],hW0,?_,?_,?_,hk.kept _,fun _=>?_⟩
 ·rw[Qas,hfn];exact hres _ _ _
 ·rw[Qas,hfn];exact hargs _ hold
 ·rw[Qas,hfn,hv];exact (rfl:DataW.TrodVars enc P W' _ [] [] [])
 ·refine ⟨ok_one hrt rfl (okWide_bool_mk htb _),[.lit (.bool true)]++ds,[],([]++p)++[],⟨[]++p,[],trodAll_append (hargs _ (fun _ _=>rfl)) (hres _ _ _),by rw[hv];exact (rfl:DataW.TrodVars enc P W' _ [] [] []),rfl,?_,?_⟩,?_⟩
  ·intro b off hp
   have hp':MemPlace.cell b off∈p:=by simpa using hp
   have e:=hk.blk b (hlt _ hp') (fun f=>f);have:=hfz b off hp';unfold World.frozen? at this ⊢;simp only[e];exact this
  ·intro ha
   simpa using hnd ha
  ·intro x hx _
   simpa using hx
end
end Go.Vc
end
section
namespace Go.Vc
open Go.Proofs Go.Proofs.YteongcjplmbkgaaGreatDoor
set_option maxRecDepth 100000
theorem own:ownKnob Tryz.prog.godebug=none:=by kernel_rfl
theorem et:P.globalNamed "errors.errorType" =some 0:=by kernel_rfl
theorem rt:(P.cutTypes.find? (·.1== "internal/reflectlite.rtype")).map (·.2)=some 297:=by kernel_rfl
theorem Ja:((List.range P.types.size).filter fun t=>P.rowNamed t [101,114,114,111,114])=[252]:=by kernel_rfl
abbrev Dz:List (String×DataW Unit):=[("errors.errorType",Rows.laid_errors_errorType)]
theorem Cj {W:World} (h:laidMetH P Dz W):LgOk W:=by
 have h':laidMet P [] W∧handlesMet P Dz W:=h;obtain ⟨name,u,ty,e1,e2,e3,e4,e5⟩:=h'.2 _ (List.mem_singleton.2 rfl);have en:name=[101,114,114,111,114]:=(Option.some.inj e1).symm;subst en;obtain rfl:=Option.some.inj (rt.symm.trans e2);have hm:ty∈(List.range P.types.size).filter fun t=>P.rowNamed t [101,114,114,111,114]:=List.mem_filter.2 ⟨List.mem_range.2 e3,e4⟩;rw[Ja] at hm;obtain rfl:=List.mem_singleton.1 hm;have hh:typeHandle P 252= .pointer (some ⟨1,252,none⟩):=by kernel_rfl
 rw[hh] at e5;have hc:=World.var?_cell et e5;refine ⟨fun p hp=>?_,?_⟩
 ·obtain rfl:=List.mem_singleton.1 hp
  exact ⟨⟨_,hp,rfl⟩,by simpa using hc 0⟩
 ·rintro b ⟨p,hp,rfl⟩ off v hv
  obtain rfl:=List.mem_singleton.1 hp;have:=hc off;simp only at this hv;rw[this] at hv
  cases off with
  |zero=>simp at hv;exact ⟨_,_,hv.symm⟩
  |succ k=>simp at hv
noncomputable def qb (os:Os):World:=
 {World.holding Tryz.prog os ⟨#[],#[],[]⟩ with heap:=(World.holding Tryz.prog os ⟨#[],#[],[]⟩).heap.modify 0 fun
  | .cells _ t frozen=> .cells #[.iface 297 (.agg #[.pointer (some ⟨1,252,none⟩)])] t frozen
  |o=>o}
theorem GF (os:Os) (args:Array Value):laidMetH Tryz.prog Dz ((qb os).forCall (fun _ _=>0) ⟨#[],args,[]⟩).memory:=
 laidMetH_of_parts (laidMet_nil _ _) (by kernel_rfl)
end Go.Vc
end
section
namespace Go.Vc
open Go.Proofs Go.RowKit Go.Extern.Stop Go.Stop Go.Extern
set_option maxRecDepth 100000
theorem xV (t:Addr) (w:World):(ReflectliteValue.unpack (.iface 268 (.pointer (some t)))).run Tryz.prog w
 = .ok (.agg #[.pointer (some ⟨1,268,none⟩),.pointer (some ⟨w.heap.size,0,none⟩),.int .u64 150]) (w.alloc (.cells #[.pointer (some t)] 268)):=by kernel_rfl
theorem EA (a:Addr) (w:World):(ReflectliteValue.methodAny (ReflectliteValue.valueError "reflectlite.Value.Type" 0) (fun t _ _ _=>ReflectliteType.toType t) #[.agg #[.pointer (some ⟨1,268,none⟩),.pointer (some a),.int .u64 150]]).run Tryz.prog w
 = .ok (.iface 297 (.agg #[.pointer (some ⟨1,268,none⟩)])) w:=by kernel_rfl
theorem vm (h:Value) (w:World):(Go.method 440 297 (.agg #[h]) "Kind").run Tryz.prog w= .ok (262,h) w:=by kernel_rfl
theorem EB (w:World):((ReflectliteType.abiMethod fun t=>(fun a:Nat=>Value.int IntKind.u8 (a:Int))<$>Rtype.kind t) #[.pointer (some ⟨1,268,none⟩)]).run Tryz.prog w= .ok (.int .u8 22) w:=by kernel_rfl
theorem EC (w:World):((ReflectliteType.abiMethod fun t=>(fun a:Nat=>Value.int IntKind.u8 (a:Int))<$>Rtype.kind t) #[.pointer (some ⟨1,264,none⟩)]).run Tryz.prog w= .ok (.int .u8 22) w:=by kernel_rfl
theorem Lt (z:Sem Value) (f:TypeId→Addr→Nat→Nat→Sem Value) (v:Value):
 ReflectliteValue.method z f #[v]=(do match←ReflectliteValue.parts v with|none=>z|some (t,a,fl)=>f t a fl (fl%32)):=rfl
theorem tc (a:Addr) (w:World):(ReflectliteValue.parts (.agg #[.pointer (some ⟨1,268,none⟩),.pointer (some a),.int .u64 150])).run Tryz.prog w= .ok (some (268,a,150)) w:=by kernel_rfl
theorem BX (a p:Addr) (W:World) (ha:W.cell? a=some (.pointer (some p))):
 (ReflectliteValue.method (ReflectliteValue.valueError "reflectlite.Value.IsNil" 0) ReflectliteValue.isNil #[.agg #[.pointer (some ⟨1,268,none⟩),.pointer (some a),.int .u64 150]]).run Tryz.prog W= .ok (.bool false) W:=by
 rw[Lt];simp only[Sem.run_bind,tc,Result.andThen];simp[ReflectliteValue.isNil,loadVar,isAgg,underlying,Tryz.underlying268,ha,Result.andThen]
theorem vn (h:Value) (w:World):(Go.method 440 297 (.agg #[h]) "Elem").run Tryz.prog w= .ok (284,.agg #[h]) w:=by kernel_rfl
theorem mf (h:Value) (w:World):(Go.method 440 297 (.agg #[h]) "Implements").run Tryz.prog w= .ok (285,.agg #[h]) w:=by kernel_rfl
theorem kM (h:Value) (w:World):(Go.method 440 297 (.agg #[h]) "AssignableTo").run Tryz.prog w= .ok (282,.agg #[h]) w:=by kernel_rfl
theorem ED (w:World):(ReflectliteType.method ReflectliteType.elem #[.agg #[.pointer (some ⟨1,268,none⟩)]]).run Tryz.prog w= .ok (.iface 297 (.agg #[.pointer (some ⟨1,264,none⟩)])) w:=by kernel_rfl
theorem re (w:World):(ReflectliteType.relation "Implements" ReflectliteType.implements_ #[.agg #[.pointer (some ⟨1,264,none⟩)],.iface 297 (.agg #[.pointer (some ⟨1,252,none⟩)])]).run Tryz.prog w= .ok (.bool true) w:=by kernel_rfl
theorem zP (v:Value) (w:World):(ReflectliteType.typeOf #[.iface 264 v]).run Tryz.prog w= .ok (.iface 297 (.agg #[.pointer (some ⟨1,264,none⟩)])) w:=by kernel_rfl
theorem rf (w:World):(ReflectliteType.relation "AssignableTo" ReflectliteType.assignableTo #[.agg #[.pointer (some ⟨1,264,none⟩)],.iface 297 (.agg #[.pointer (some ⟨1,264,none⟩)])]).run Tryz.prog w= .ok (.bool true) w:=by kernel_rfl
theorem xW (e:Addr) (w:World):(ReflectliteValue.unpack (.iface 264 (.pointer (some e)))).run Tryz.prog w
 = .ok (.agg #[.pointer (some ⟨1,264,none⟩),.pointer (some ⟨w.heap.size,0,none⟩),.int .u64 150]) (w.alloc (.cells #[.pointer (some e)] 264)):=by kernel_rfl
theorem zR (w:World):(Rtype.elem? 268).run Tryz.prog w= .ok (some 264) w:=by kernel_rfl
theorem HO (p:Addr) (w:World):(ReflectliteValue.mk 264 p ReflectliteValue.flagAddr).run Tryz.prog w= .ok (.agg #[.pointer (some ⟨1,264,none⟩),.pointer (some p),.int .u64 406]) w:=by kernel_rfl
theorem BY (a p:Addr) (W:World) (ha:W.cell? a=some (.pointer (some p))):
 (ReflectliteValue.method (ReflectliteValue.valueError "reflectlite.Value.Elem" 0) ReflectliteValue.elem #[.agg #[.pointer (some ⟨1,268,none⟩),.pointer (some a),.int .u64 150]]).run Tryz.prog W
   = .ok (.agg #[.pointer (some ⟨1,264,none⟩),.pointer (some p),.int .u64 406]) W:=by
 rw[Lt];simp only[Sem.run_bind,tc,Result.andThen];simp[ReflectliteValue.elem,loadVar,isAgg,underlying,Tryz.underlying268,ha,Result.andThen,zR,HO]
theorem LJ (v x:Value):ReflectliteValue.set #[v,x]=(do
 let (some (dst,a,fl),some (src,b,_)):=(←ReflectliteValue.parts v,←ReflectliteValue.parts x)
  |unsupported (.noEntry "extern/(internal/reflectlite.Value).Set.zeroValue")
 if fl/ReflectliteValue.flagAddr%2==0 then unsupported (.noEntry "extern/(internal/reflectlite.Value).Set.unaddressable")
 let val←loadVar src b
 if←Rtype.directlyAssignable dst src then storeVar dst a val
 else if←Rtype.implements dst src then
  if (←Rtype.kind src)==20 then
   match val with
   | .nilIface=>unsupported (.noEntry "extern/reflectlite: a nil value of one interface type handed on as a value of another")
   |_=>storeVar dst a val
  else storeVar dst a (.iface src val)
 else panicString ("reflectlite.Set: value of type " ++(←Rtype.spelt src)++ " is not assignable to type " ++(←Rtype.spelt dst))
 pure (.tuple #[])):=rfl
theorem zQ (a:Addr) (w:World):(ReflectliteValue.parts (.agg #[.pointer (some ⟨1,264,none⟩),.pointer (some a),.int .u64 406])).run Tryz.prog w= .ok (some (264,a,406)) w:=by kernel_rfl
theorem BW (a:Addr) (w:World):(ReflectliteValue.parts (.agg #[.pointer (some ⟨1,264,none⟩),.pointer (some a),.int .u64 150])).run Tryz.prog w= .ok (some (264,a,150)) w:=by kernel_rfl
theorem zS (w:World):(Rtype.directlyAssignable 264 264).run Tryz.prog w= .ok true w:=by kernel_rfl
theorem JO (w:World):(sizeOf 264).run Tryz.prog w= .ok 1 w:=by kernel_rfl
theorem F3 (ta b e:Addr) (old:Value) (W:World) (hb:W.cell? b=some (.pointer (some e))) (ht:W.cell? ta=some old) (hf:W.frozen? ta=false):
 (ReflectliteValue.set #[.agg #[.pointer (some ⟨1,264,none⟩),.pointer (some ta),.int .u64 406],.agg #[.pointer (some ⟨1,264,none⟩),.pointer (some b),.int .u64 150]]).run Tryz.prog W
   = .ok (.tuple #[]) (W.setCell ta (.pointer (some e))):=by
 rw[LJ];simp only[Sem.run_bind,zQ,BW,Result.andThen];simp[ReflectliteValue.flagAddr,loadVar,isAgg,underlying,Tryz.underlying264,hb,Result.andThen,zS,storeVar,Value.cells,storeCells,Addr.add];rw[run_store Tryz.prog W ta _ _ (by rfl)];simp[ht,hf]
set_option maxHeartbeats 4000000 in
theorem JD (e t:Addr) (old:Value) (w:World) (hg:w.cell? ⟨0,0,none⟩=some (.iface 297 (.agg #[.pointer (some ⟨1,252,none⟩)]))) (ht0:w.cell? t=some old) (hf0:w.frozen? t=false):
 Calls Tryz.prog 232 #[.iface 264 (.pointer (some e)),.iface 268 (.pointer (some t))] w fun ev w'=>ev= .returned (.bool true)∧w'=((((w.alloc (.cells #[.pointer (some t)] 268)).alloc (.cells #[.pointer (some ⟨1,268,none⟩),.pointer (some ⟨w.heap.size,0,none⟩),.int .u64 150] 279)).alloc (.cells #[.pointer (some ⟨1,268,none⟩),.pointer (some ⟨w.heap.size,0,none⟩),.int .u64 150] 279)).alloc (.cells #[.pointer (some e)] 264)).setCell t (.pointer (some e)):=by
 have h6:=@run_callFunc_extern Tryz.prog 237 _ (fun args=>ReflectliteValue.unpack (args.getD 0 (.tuple #[]))) Tryz.func237 (by kernel_rfl) (by kernel_rfl) (by kernel_rfl) (by kernel_rfl);have h7:=@run_callFunc_extern Tryz.prog 238 _ (ReflectliteValue.methodAny (ReflectliteValue.valueError "reflectlite.Value.Type" 0) (fun t _ _ _=>ReflectliteType.toType t)) Tryz.func238 (by kernel_rfl) (by kernel_rfl) (by kernel_rfl) (by kernel_rfl);have h8:=@run_callFunc_extern Tryz.prog 239 _ (ReflectliteValue.method (ReflectliteValue.valueError "reflectlite.Value.IsNil" 0) ReflectliteValue.isNil) Tryz.func239 (by kernel_rfl) (by kernel_rfl) (by kernel_rfl) (by kernel_rfl);have h27:=@run_callFunc_extern Tryz.prog 262 _ (ReflectliteType.abiMethod fun t=>do pure (.int .u8 (←Rtype.kind t))) Tryz.func262 (by kernel_rfl) (by kernel_rfl) (by kernel_rfl) (by kernel_rfl);have h37:=@run_callFunc_extern Tryz.prog 284 _ (ReflectliteType.method ReflectliteType.elem) Tryz.func284 (by kernel_rfl) (by kernel_rfl) (by kernel_rfl) (by kernel_rfl);have h38:=@run_callFunc_extern Tryz.prog 285 _ (ReflectliteType.relation "Implements" ReflectliteType.implements_) Tryz.func285 (by kernel_rfl) (by kernel_rfl) (by kernel_rfl) (by kernel_rfl);have h10:=@run_callFunc_extern Tryz.prog 245 _ ReflectliteType.typeOf Tryz.func245 (by kernel_rfl) (by kernel_rfl) (by kernel_rfl) (by kernel_rfl);have h35:=@run_callFunc_extern Tryz.prog 282 _ (ReflectliteType.relation "AssignableTo" ReflectliteType.assignableTo) Tryz.func282 (by kernel_rfl) (by kernel_rfl) (by kernel_rfl) (by kernel_rfl);have h11:=@run_callFunc_extern Tryz.prog 246 _ (ReflectliteValue.method (ReflectliteValue.valueError "reflectlite.Value.Elem" 0) ReflectliteValue.elem) Tryz.func246 (by kernel_rfl) (by kernel_rfl) (by kernel_rfl) (by kernel_rfl);have h12:=@run_callFunc_extern Tryz.prog 247 _ ReflectliteValue.set Tryz.func247 (by kernel_rfl) (by kernel_rfl) (by kernel_rfl) (by kernel_rfl);have tO:=zP;have mA:=kM;have a25:=rf;have v25:=xW;have f6:=xV;have f7:=EA;have mK:=vm;have mE:=vn;have mI:=mf;have k27:=EB;have k25:=EC;have e27:=ED;have i25:=re;have n8:=BX ⟨w.heap.size,0,none⟩ t ((w.alloc (.cells #[.pointer (some t)] 268)).alloc (.cells #[.pointer (some ⟨1,268,none⟩),.pointer (some ⟨w.heap.size,0,none⟩),.int .u64 150] 279)) (by simp)
 have hlt:0<w.heap.size:=by
  rcases Nat.eq_zero_or_pos w.heap.size with h0|h
  ·simp[World.cell?,h0] at hg
  ·exact h
 have hg2:((w.alloc (.cells #[.pointer (some t)] 268)).alloc (.cells #[.pointer (some ⟨1,268,none⟩),.pointer (some ⟨w.heap.size,0,none⟩),.int .u64 150] 279)).cell? ⟨0,0,none⟩=some (.iface 297 (.agg #[.pointer (some ⟨1,252,none⟩)])):=by
  rw[World.cell?_alloc_lt _ _ ⟨0,0,none⟩ (by simp),World.cell?_alloc_lt _ _ ⟨0,0,none⟩ hlt];exact hg
 have htl:t.block<w.heap.size:=by
  rcases Nat.lt_or_ge t.block w.heap.size with h|h
  ·exact h
  ·simp[World.cell?,Array.getElem?_eq_none h] at ht0
 have el:=BY ⟨w.heap.size,0,none⟩ t (((w.alloc (.cells #[.pointer (some t)] 268)).alloc (.cells #[.pointer (some ⟨1,268,none⟩),.pointer (some ⟨w.heap.size,0,none⟩),.int .u64 150] 279)).alloc (.cells #[.pointer (some ⟨1,268,none⟩),.pointer (some ⟨w.heap.size,0,none⟩),.int .u64 150] 279)) (by rw[World.cell?_alloc_lt _ _ ⟨w.heap.size,0,none⟩ (by simp;omega)];simp)
 have st:=F3 t ⟨w.heap.size+1+1+1,0,none⟩ e old ((((w.alloc (.cells #[.pointer (some t)] 268)).alloc (.cells #[.pointer (some ⟨1,268,none⟩),.pointer (some ⟨w.heap.size,0,none⟩),.int .u64 150] 279)).alloc (.cells #[.pointer (some ⟨1,268,none⟩),.pointer (some ⟨w.heap.size,0,none⟩),.int .u64 150] 279)).alloc (.cells #[.pointer (some e)] 264))
  (by rw[World.cell?_alloc_at _ _ _ _ (by simp)];rfl)
  (by rw[World.cell?_alloc_lt _ _ t (by simp;omega),World.cell?_alloc_lt _ _ t (by simp;omega),World.cell?_alloc_lt _ _ t (by simp;omega),World.cell?_alloc_lt _ _ t htl];exact ht0)
  (by rw[World.frozen?_alloc_old _ _ t (by simp;omega),World.frozen?_alloc_old _ _ t (by simp;omega),World.frozen?_alloc_old _ _ t (by simp;omega),World.frozen?_alloc_old _ _ t (Nat.ne_of_lt htl)];exact hf0)
 go_enter Tryz.func232,Tryz.ntmps232
 go_wp2
 refine wp_loop_rounds 1 ?_;rw[rounds_succ]
 go_wp2
 go_ret
 exact ⟨rfl,rfl⟩
end Go.Vc
end
section
namespace Go.Vc
def co (c:UInt8):Bool:=(decide ((c.toNat:Int)≥97)&&decide ((c.toNat:Int)≤122))||(decide ((c.toNat:Int)≥48)&&decide ((c.toNat:Int)≤57))||((c.toNat:Int)==45)
def aX (s:Bs):Bool:=decide (1≤s.length)&&(decide (s.length≤16)&&s.all co)
def fJ (n a b:Int):Bool:=decide (n≥a)&&decide (n≤b)
theorem EV {s:Bs} (h:(!fJ (s.length:Int) 1 16)=true):false=aX s:=by
 simp only[fJ,Qab,Qah,decide_eq_false_iff_not] at h;unfold aX;rcases h with h|h
 ·rw[decide_eq_false (by omega)];rfl
 ·rw[decide_eq_false (p:=s.length≤16) (by omega)];simp
theorem Cb {s:Bs} (h:(!fJ (s.length:Int) 1 16)=false):aX s=(s.drop 0).all co:=by
 simp only[fJ,Qaa,Qag,decide_eq_true_eq] at h;unfold aX;rw[decide_eq_true (by omega),decide_eq_true (p:=s.length≤16) (by omega)];rfl
def tV:Option Bs→Bs→Bool
 |none,_=>true
 |some q,x=>Op.bytesLess q x
def ec {α:Type} (key:α→Bs):Option Bs→List α→Bool
 |_,[]=>true
 |p,x::xs=>(aX (key x)&&tV p (key x))&&ec key (some (key x)) xs
def gS {α:Type} (key:α→Bs) (xs:List α):Nat→Option Bs
 |0=>none
 |j+1=>(xs[j]?).map key
section
variable {α:Type} {key:α→Bs} {xs:List α} {i:Nat}
theorem uC (h:i<xs.length):ec key (gS key xs i) (xs.drop i)=((aX (key xs[i])&&tV (gS key xs i) (key xs[i]))&&ec key (gS key xs (i+1)) (xs.drop (i+1))):=by
 rw[Qad h];simp only[ec,gS,Qaf h,QaK]
theorem pq {p:Option Bs} (h:xs.length≤i):ec key p (xs.drop i)=true:=by
 rw[Qae h];rfl
theorem lL (h:i<xs.length) (hn:(!aX (key xs[i]))=true):false=ec key (gS key xs i) (xs.drop i):=by
 rw[uC h,show aX (key xs[i])=false from by simpa using hn];rfl
theorem lM (h:i<xs.length) (h0:0<i) (hn:(!Op.bytesLess (key (xs[i - 1]'(by omega))) (key xs[i]))=true):false=ec key (gS key xs i) (xs.drop i):=by
 obtain ⟨j,rfl⟩:∃j,i=j+1:=⟨i - 1,by omega⟩;rw[uC h]
 have:tV (gS key xs (j+1)) (key xs[j+1])=false:=by
  simp only[gS,Qaf (show j<xs.length by omega),QaK,tV];simpa using hn
 rw[this];simp
theorem jq (h:i<xs.length) (hn:(!aX (key xs[i]))=false) (hl:i=0∨∃h0:0<i,(!Op.bytesLess (key (xs[i - 1]'(by omega))) (key xs[i]))=false):
 ec key (gS key xs i) (xs.drop i)=ec key (gS key xs (i+1)) (xs.drop (i+1)):=by
 rw[uC h,show aX (key xs[i])=true from by simpa using hn];rcases hl with rfl|⟨h0,hl⟩
 ·rfl
 ·obtain ⟨j,rfl⟩:∃j,i=j+1:=⟨i - 1,by omega⟩
  have:tV (gS key xs (j+1)) (key xs[j+1])=true:=by
   simp only[gS,Qaf (show j<xs.length by omega),QaK,tV];simpa using hl
  rw[this];rfl
end
def asc (xs:List Bs):Bool:=ec id none xs
theorem ng {i:Nat} (h:decide ((i:Int)>0)=true):0<i:=by have:=of_decide_eq_true h;omega
theorem rm {i:Nat} (h:decide ((i:Int)>0)=false):i=0:=by have:=of_decide_eq_false h;omega
def gt (n:Int):Bs→Option Int
 |[]=>some n
 |c::s=>bif (decide ((c.toNat:Int)<48)||decide ((c.toNat:Int)>57)) then none else gt (n*10+(c.toNat:Int) - 48) s
def eA (s:Bs):Option Int:=bif (!fJ (s.length:Int) 1 7||(decide ((s.length:Int)>1)&&((s.headD 0).toNat:Int)==48)) then none else gt 0 s
theorem i4 {s:Bs} {i:Nat} {n:Int} (h:i<s.length):gt n (s.drop i)=bif (decide ((s[i].toNat:Int)<48)||decide ((s[i].toNat:Int)>57)) then none else gt (n*10+(s[i].toNat:Int) - 48) (s.drop (i+1)):=by
 rw[Qad h];rfl
theorem gq {s:Bs} {i:Nat} {n:Int} (h:s.length≤i):gt n (s.drop i)=some n:=by
 rw[Qae h];rfl
theorem oI {n:Int} {i:Nat} {c:UInt8} (hn:0≤n∧n<10 ^ i) (hi:i<7) (h1:decide ((c.toNat:Int)<48)=false) (h2:decide ((c.toNat:Int)>57)=false):
 IntKind.i64.wrap (IntKind.i64.wrap (IntKind.i64.wrap (n*10)+IntKind.i64.wrap (c.toNat:Int)) - 48)=n*10+(c.toNat:Int) - 48∧0≤n*10+(c.toNat:Int) - 48∧n*10+(c.toNat:Int) - 48<10 ^ (i+1):=by
 have h1:=of_decide_eq_false h1;have h2:=of_decide_eq_false h2;have hp:(10:Int) ^ (i+1)=10 ^ i*10:=by rw[Int.pow_succ]
 have hle:(10:Int) ^ i≤10 ^ 6:=by
  have:(10:Nat) ^ i≤10 ^ 6:=QaR (by decide) (by omega);have h3:((10 ^ i:Nat):Int)≤((10 ^ 6:Nat):Int):=Int.ofNat_le.2 this;simpa using h3
 simp only[IntKind.wrap_i64];generalize (10:Int) ^ i=p at*;refine ⟨by omega,by omega,by omega⟩
theorem d7 {s:Bs} (h:(!fJ (s.length:Int) 1 7)=false):0<s.length∧s.length≤7:=by
 simp only[fJ,Qaa,Qag,decide_eq_true_eq] at h;omega
theorem AW {s:Bs} (h:0<s.length):s.headD 0=s[0]:=by
 cases s with
 |nil=>simp at h
 |cons a s=>rfl
theorem mw:∀{s:Bs} {n m:Int},0≤n→gt n s=some m→0≤m
 |[],n,m,hn,h=>by simp only[gt,Qau] at h;omega
 |c::s,n,m,hn,h=>by
  simp only[gt] at h;cases hc:(decide ((c.toNat:Int)<48)||decide ((c.toNat:Int)>57))
  ·rw[hc] at h
   simp only[Qaz,decide_eq_false_iff_not] at hc;exact mw (by omega) h
  ·rw[hc] at h;cases h
theorem oJ {s:Bs} {m:Int} (h:eA s=some m):0≤m:=by
 unfold eA at h;generalize (!fJ (s.length:Int) 1 7||(decide ((s.length:Int)>1)&&((s.headD 0).toNat:Int)==48))=b at h;cases b
 ·exact mw (Qar 0) h
 ·cases h
def kg (s:Bs):Int:=match eA s with|some n=>n|none=> -1
def jD (s:Bs):Int:=match eA s with|some n=>n|none=>0
theorem tr {s:Bs} (h:(!fJ (s.length:Int) 1 7)=true):eA s=none:=by unfold eA;rw[h];rfl
theorem m7 {s:Bs} (h:(!fJ (s.length:Int) 1 7)=false) (h1:decide ((s.length:Int)>1)=true) (h2:(((s[0]'((d7 h).1)).toNat:Int)==48)=true):eA s=none:=by
 unfold eA;rw[h,h1,AW (d7 h).1,h2];rfl
theorem oK {s:Bs} (h:(!fJ (s.length:Int) 1 7)=false) (h1:decide ((s.length:Int)>1)=false∨(((s[0]'((d7 h).1)).toNat:Int)==48)=false):eA s=gt 0 (s.drop 0):=by
 unfold eA;rw[h,AW (d7 h).1];rcases h1 with h1|h1
 ·rw[h1];rfl
 ·rw[h1,Qal];rfl
def dM (c:UInt8):Bool:=fJ (c.toNat:Int) 33 126
def dI (f:GateField) (v:Bs):Bool:=
 bif f.kind==1 then (match eA v with|some n=>fJ n f.least f.most|none=>false)
 else bif f.kind==2 then !(v==[])&&f.words.any (·==v)
 else bif f.kind==3 then v.all dM&&(!(v==[])&&fJ (v.length:Int) f.least f.most)
 else bif f.kind==4 then aX v else false
def lK (f:GateField):Bool:=
 !((!(f.kind==1||f.kind==3)&&(f.least !=0||f.most !=0))||(f.kind !=1&& !(f.weighs==[])))&&(!(f.kind !=2&&decide ((f.words.length:Int)>0))&&(f.kind==4||(f.to_==[]&&f.role==0)))
theorem vO (c:UInt8):IntKind.i64.wrap (c.toNat:Int)=(c.toNat:Int):=by
 have:=c.toNat_lt;rw[IntKind.wrap_i64];omega
def mX (f:GateField):Bool:=decide (f.least≥0)&&(decide (f.least≤f.most)&&(decide (f.most≤1000000)&&(f.weighs==[]||aX f.weighs)))
def mW (f:GateField):Bool:=fJ (f.words.length:Int) 1 6&&asc f.words
def mV (f:GateField):Bool:=decide (f.least≥1)&&(decide (f.least≤f.most)&&decide (f.most≤40))
def mU (kinds:List Bs) (f:GateField):Bool:=kinds.any (·==f.to_)&&(fJ f.role 1 3&&(f.default_==[]&&(f.role !=2|| !f.must)))
def cZ (kinds:List Bs) (f:GateField):Bool:=
 bif f.kind==1 then mX f else bif f.kind==2 then mW f else bif f.kind==3 then mV f else bif f.kind==4 then mU kinds f else false
def yY (f:GateField):Bool:=(f.words.length:Int)==0&&(f.to_==[]&&f.role==0)
def yX (f:GateField):Bool:=f.least==0&&(f.most==0&&(f.to_==[]&&(f.role==0&&f.weighs==[])))
def yW (f:GateField):Bool:=(f.words.length:Int)==0&&(f.to_==[]&&(f.role==0&&f.weighs==[]))
def yV (f:GateField):Bool:=f.least==0&&(f.most==0&&((f.words.length:Int)==0&&f.weighs==[]))
theorem tX (n:Nat):(!decide ((n:Int)>0))=((n:Int)==0):=by
 cases n with
 |zero=>rfl
 |succ n=>simp;omega
theorem Hm {f:GateField} (h:f.kind=1):lK f=yY f:=by
 simp only[lK,yY,h,←tX];generalize decide ((f.words.length:Int)>0)=a;generalize (f.to_==[])=b;generalize (f.role==0)=c;cases a<;>cases b<;>cases c<;>simp
theorem Hl {f:GateField} (h:f.kind=2):lK f=yX f:=by
 simp only[lK,yX,h,bne];generalize (f.least==0)=a;generalize (f.most==0)=a';generalize (f.to_==[])=b;generalize (f.role==0)=c;generalize (f.weighs==[])=d;cases a<;>cases a'<;>cases b<;>cases c<;>cases d<;>simp
theorem Hk {f:GateField} (h:f.kind=3):lK f=yW f:=by
 simp only[lK,yW,h,←tX];generalize decide ((f.words.length:Int)>0)=a;generalize (f.to_==[])=b;generalize (f.role==0)=c;generalize (f.weighs==[])=d;cases a<;>cases b<;>cases c<;>cases d<;>simp
theorem Hj {f:GateField} (h:f.kind=4):lK f=yV f:=by
 simp only[lK,yV,h,bne,←tX];generalize decide ((f.words.length:Int)>0)=b;generalize (f.least==0)=a;generalize (f.most==0)=a';generalize (f.weighs==[])=d;cases a<;>cases a'<;>cases b<;>cases d<;>simp
def al (kinds:List Bs) (f:GateField):Bool:=aX f.name&&(lK f&&((f.default_==[]||dI f f.default_)&&cZ kinds f))
def ml (kinds:List Bs):List Bs→List GateField→Bool
 |_,[]=>true
 |pre,f::fs=> !(pre.any (·==f.name))&&(al kinds f&&ml kinds (pre++[f.name]) fs)
def bH (kinds:List Bs) (s:GateShape):Bool:= !decide ((s.fields.length:Int)>6)&&ml kinds [] s.fields
def aR (l:List GateShape):Bool:= !decide ((l.length:Int)>6)&&(ec (·.kind) none l&&l.all (bH (l.map (·.kind))))
theorem qi {kinds:List Bs} {fs:List GateField} {k:Nat} (h:k<fs.length):ml kinds ((fs.take k).map (·.name)) (fs.drop k)=
 (!(((fs.take k).map (·.name)).any (·==fs[k].name))&&(al kinds fs[k]&&ml kinds ((fs.take (k+1)).map (·.name)) (fs.drop (k+1)))):=by
 rw[Qad h,Qak h,Qay];rfl
theorem uj {kinds pre:List Bs} {fs:List GateField} {k:Nat} (h:fs.length≤k):ml kinds pre (fs.drop k)=true:=by
 rw[Qae h];rfl
def eR {α:Type} (p:α→Bool):List α→Nat→Int
 |[],_=> -1
 |x::xs,k=>bif p x then (k:Int) else eR p xs (k+1)
def dC {α:Type} (p:α→Bool) (xs:List α):Int:=eR p xs 0
section
variable {α:Type} {p:α→Bool} {xs:List α} {i:Nat}
theorem dR (h:i<xs.length):eR p (xs.drop i) i=bif p xs[i] then (i:Int) else eR p (xs.drop (i+1)) (i+1):=by
 rw[Qad h];rfl
theorem eL (h:xs.length≤i):eR p (xs.drop i) i= -1:=by
 rw[Qae h];rfl
theorem iJ:∀(xs:List α) (k:Nat),(eR p xs k= -1∧xs.any p=false)∨(∃j:Nat,∃h:j<xs.length,eR p xs k=((k+j:Nat):Int)∧p xs[j]=true∧xs.any p=true)
 |[],k=> .inl ⟨rfl,rfl⟩
 |x::xs,k=>by
  cases hx:p x with
  |true=>exact .inr ⟨0,by simp,by simp[eR,hx],by simpa using hx,by simp[hx]⟩
  |false=>
   rcases iJ xs (k+1) with ⟨h1,h2⟩|⟨j,hj,h1,h2,h3⟩
   ·exact .inl ⟨by simp[eR,hx,h1],by simp[hx,h2]⟩
   ·exact .inr ⟨j+1,by simp;omega,by simp only[eR,hx,cond_false,h1];omega,by simpa using h2,by simp[hx,h3]⟩
theorem DE (h:decide (dC p xs≥0)=false):dC p xs= -1∧xs.any p=false:=by
 have:=of_decide_eq_false h;rcases iJ (p:=p) xs 0 with h1|⟨j,hj,h1,_⟩
 ·exact h1
 ·unfold dC at this;omega
theorem cW (h:decide (dC p xs≥0)=true):∃j:Nat,∃h:j<xs.length,dC p xs=(j:Int)∧p xs[j]=true∧xs.any p=true:=by
 have:=of_decide_eq_true h;rcases iJ (p:=p) xs 0 with h1|⟨j,hj,h1,h2⟩
 ·unfold dC at this;omega
 ·exact ⟨j,hj,by unfold dC;omega,h2⟩
theorem o7:decide (dC p xs≥0)=xs.any p:=by
 cases h:decide (dC p xs≥0) with
 |true=>obtain ⟨j,_,_,_,h3⟩:=cW h;exact h3.symm
 |false=>exact (DE h).2.symm
end
def fR (fs:List GateField) (n:Bs):Bool:=decide (dC (·.name==n) fs≥0)&&(match fs[(dC (·.name==n) fs).toNat]? with|some f=>f.kind !=4|none=>false)
def jG (fs:List GateField) (m:GateMend):Bool:=
 (fR fs m.field&&((m.when_==[]||fR fs m.when_)&&(m.from_==[]||fR fs m.from_)))&&
 (!((m.when_==m.field)||((m.from_==m.field)||((m.when_==[]&& !(m.is_==[]))||((m.put==[])==(m.from_==[])))))&&
  (m.put==[]||(match fs[(dC (·.name==m.field) fs).toNat]? with|some f=>dI f m.put|none=>false)))
def bX (shapes:List GateShape) (m:GateMend):Bool:=match shapes[(dC (·.kind==m.kind) shapes).toNat]? with
 |some s=>decide (dC (·.kind==m.kind) shapes≥0)&&jG s.fields m
 |none=>false
theorem wd {fs:List GateField} {n:Bs} {j:Nat} (hj:j<fs.length) (h:decide (dC (·.name==n) fs≥0)=true) (e:dC (·.name==n) fs=(j:Int)):fR fs n=(fs[j].kind !=4):=by
 unfold fR;rw[h,e,Qav,Qaf hj];rfl
theorem jA {fs:List GateField} {n:Bs} (h:decide (dC (·.name==n) fs≥0)=false):fR fs n=false:=by
 unfold fR;rw[h];rfl
end Go.Vc
end
section
namespace Go.Vc
open Go.Proofs
set_option maxRecDepth 100000
theorem eU (a b c:Int):Spec P 92 [.d (.int .i64 a),.d (.int .i64 b),.d (.int .i64 c)] (.d (.bool (fJ a b c))):=by
 refine Spec.of_vc aO aA [.tmp 6] Tryz.func92 rfl rfl rfl rfl (fun hok=>?_);repeat refine ai ?_
 refine aj ?_ ?_<;>intro h;all_goals (refine bd ?_;simp only[fJ,h,bl])
theorem k7 (c:UInt8):Spec P 154 [.d (.int .u8 c.toNat)] (.d (.bool (co c))):=by
 refine Spec.of_vc aO aA [.tmp 2] Tryz.func154 rfl rfl rfl rfl (fun hok=>?_)
 repeat' refine aj ?_ ?_<;>intro h
 all_goals (refine bd ?_;simp only[co, *,bl])
theorem bT (s:Bs):Spec P 91 [.d (.str s)] (.d (.bool (aX s))):=by
 refine Spec.of_vc aO aA [.tmp 2] Tryz.func91 rfl rfl rfl rfl (fun hok=>?_);have hs:s.length≤big:=hok.1;repeat refine ai ?_
 refine oc (eU _ _ _) ?_;repeat refine ai ?_
 refine aj ?_ ?_<;>intro h
 ·exact bd (EV h)
 repeat refine ai ?_
 refine d8 (s) (fun i=>aX s=(s.drop i).all co) (fun i=>[(0,.d (.str s)),(3,.d (.int .i64 i))]) (fun i=>hp0) (Cb h) ?_;intro i hi hr;repeat refine ai ?_
 refine aj ?_ ?_<;>intro h1
 ·have hlt:i<s.length:=hM h1
  repeat refine ai ?_
  refine dl (hlt) ?_;repeat refine ai ?_
  refine oc (k7 _) ?_;rw[aM hlt] at hr;repeat refine ai ?_
  refine aj ?_ ?_<;>intro h2
  ·refine bd ?_
   rw[hr,show co s[i]=false from by simpa using h2];rfl
  ·repeat refine ai ?_
   exact bJ hlt hs (by rw[hr,show co s[i]=true from by simpa using h2];rfl)
 ·refine bd ?_
  rw[hr,cJ (fV h1)]
theorem Cq (c:UInt8):Spec P 196 [.d (.int .u8 c.toNat)] (.d (.bool (co c))):=by
 refine Spec.of_vc aO aA [.tmp 2] Tryz.func196 rfl rfl rfl rfl (fun hok=>?_)
 repeat' refine aj ?_ ?_<;>intro h
 all_goals (refine bd ?_;simp only[co, *,bl])
theorem gV (s:Bs):Spec P 158 [.d (.str s)] (.d (.bool (s.all co))):=by
 refine Spec.of_vc aO aA [.tmp 2] Tryz.func158 rfl rfl rfl rfl (fun hok=>?_);have hs:s.length≤big:=hok.1;repeat refine ai ?_
 refine d8 (s) (fun i=>s.all co=(s.drop i).all co) (fun i=>[(0,.d (.str s)),(5,.d (.int .i64 s.length)),(6,.d (.int .i64 i))]) (fun i=>hp0) (rfl) ?_;intro i hi hr;repeat refine ai ?_
 refine aj ?_ ?_<;>intro h1
 ·have hlt:i<s.length:=hM h1
  repeat refine ai ?_
  refine dl (hlt) ?_;repeat refine ai ?_
  refine oc (Cq _) ?_;rw[aM hlt] at hr;repeat refine ai ?_
  refine aj ?_ ?_<;>intro h2
  ·refine bd ?_
   rw[hr,show co s[i]=false from by simpa using h2];rfl
  ·repeat refine ai ?_
   exact bJ hlt hs (by rw[hr,show co s[i]=true from by simpa using h2];rfl)
 ·refine bd ?_
  rw[hr,cJ (fV h1)]
theorem uz {s:Bs}:decide ((s.length:Int)≥1)=decide (1≤s.length):=by by_cases h:1≤s.length<;>simp[h]<;>omega
theorem ql {s:Bs}:decide ((s.length:Int)≤16)=decide (s.length≤16):=by by_cases h:s.length≤16<;>simp[h]<;>omega
theorem dD (s:Bs):Spec P 97 [.d (.str s)] (.d (.bool (aX s))):=by
 refine Spec.of_vc aO aA [.tmp 2] Tryz.func97 rfl rfl rfl rfl (fun hok=>?_);repeat refine ai ?_
 refine aj ?_ ?_<;>intro h
 ·repeat refine ai ?_
  refine aj ?_ ?_<;>intro h2
  ·repeat refine ai ?_
   refine oc (gV _) ?_;refine bd ?_;unfold aX;rw[←uz,←ql,h,h2];rfl
  ·refine bd ?_
   unfold aX;rw[←uz,←ql,h,h2];rfl
 ·refine bd ?_
  unfold aX;rw[←uz,←ql,h];rfl
end Go.Vc
end
section
namespace Go.Vc
open Go.Proofs
set_option maxRecDepth 100000
theorem jd (xs:List Bs):Spec P 204 [.d (lS xs)] (.d (.bool (asc xs))):=by
 refine Spec.of_vc aO aA [.tmp 2] Tryz.func204 rfl rfl rfl rfl (fun hok=>?_);have hs:xs.length≤big:=az hok.1.1;repeat refine ai ?_
 refine d8 (xs) (fun i=>asc xs=ec id (gS id xs i) (xs.drop i)) (fun i=>[(0,.d (lS xs)),(3,.d (.int .i64 i))]) (fun i=>hp0) (rfl) ?_;intro i hi hr;repeat refine ai ?_
 refine aj ?_ ?_<;>intro h1
 ·have hlt:i<xs.length:=U h1
  repeat refine ai ?_
  refine ak ?_;repeat refine ai ?_
  refine O (e:=eB) (xs:=xs) (hlt) rfl ?_;repeat refine ai ?_
  refine oc (bT _) ?_;repeat refine ai ?_
  refine aj ?_ ?_<;>intro h2
  ·repeat refine ai ?_
   refine aj ?_ ?_<;>intro h3
   ·have h0:=ng h3
    repeat refine ai ?_
    refine aH (e:=eB) (xs:=xs) ((show i - 1<xs.length by omega)) (bc h0 hlt hs) rfl ?_;repeat refine ai ?_
    refine O (e:=eB) (xs:=xs) (hlt) rfl ?_;repeat refine ai ?_
    refine aj ?_ ?_<;>intro h4
    ·refine bd ?_
     rw[hr];exact lM (key:=id) hlt h0 h4
    ·repeat refine ai ?_
     exact bJ hlt hs (by rw[hr];exact jq (key:=id) hlt h2 (.inr ⟨h0,h4⟩))
   ·repeat refine ai ?_
    refine an ?_;repeat refine ai ?_
    exact bJ hlt hs (by rw[hr];exact jq (key:=id) hlt h2 (.inl (rm h3)))
  ·repeat refine ai ?_
   refine ay ?_;refine bd ?_;rw[hr];exact lL (key:=id) hlt h2
 ·refine bd ?_
  rw[hr,pq (V h1)]
theorem gz (xs:List Bs):Spec P 225 [.d (lS xs)] (.d (.bool (asc xs))):=by
 refine Spec.of_vc aO aA [.tmp 2] Tryz.func225 rfl rfl rfl rfl (fun hok=>?_);have hs:xs.length≤big:=az hok.1.1;repeat refine ai ?_
 refine d8 (xs) (fun i=>asc xs=ec id (gS id xs i) (xs.drop i)) (fun i=>[(0,.d (lS xs)),(5,.d (lS xs)),(6,.d (.int .i64 (xs.map eB).length)),(7,.d (.int .i64 i))]) (fun i=>hp0) (rfl) ?_;intro i hi hr;repeat refine ai ?_
 refine aj ?_ ?_<;>intro h1
 ·have hlt:i<xs.length:=U h1
  repeat refine ai ?_
  refine O (e:=eB) (xs:=xs) (hlt) rfl ?_;repeat refine ai ?_
  refine oc (dD _) ?_;repeat refine ai ?_
  refine aj ?_ ?_<;>intro h2
  ·repeat refine ai ?_
   refine aj ?_ ?_<;>intro h3
   ·have h0:=ng h3
    repeat refine ai ?_
    refine aH (e:=eB) (xs:=xs) ((show i - 1<xs.length by omega)) (bc h0 hlt hs) rfl ?_;repeat refine ai ?_
    refine aj ?_ ?_<;>intro h4
    ·refine bd ?_
     rw[hr];exact lM (key:=id) hlt h0 h4
    ·repeat refine ai ?_
     exact bJ hlt hs (by rw[hr];exact jq (key:=id) hlt h2 (.inr ⟨h0,h4⟩))
   ·repeat refine ai ?_
    exact bJ hlt hs (by rw[hr];exact jq (key:=id) hlt h2 (.inl (rm h3)))
  ·refine bd ?_
   rw[hr];exact lL (key:=id) hlt h2
 ·refine bd ?_
  rw[hr,pq (V h1)]
theorem xT (xs:List Bs) (s:Bs):Spec P 222 [.d (lS xs),.d (.str s)] (.d (.bool (xs.any (·==s)))):=by
 refine Spec.of_vc aO aA [.tmp 4] Tryz.func222 rfl rfl rfl rfl (fun hok=>?_);have hs:xs.length≤big:=az hok.1.1;repeat refine ai ?_
 refine d8 (xs) (fun i=>xs.any (·==s)=(xs.drop i).any (·==s)) (fun i=>[(0,.d (lS xs)),(1,.d (.str s)),(5,.d (.int .i64 i))]) (fun i=>hp0) (rfl) ?_;intro i hi hr;repeat refine ai ?_
 refine aj ?_ ?_<;>intro h1
 ·have hlt:i<xs.length:=U h1
  repeat refine ai ?_
  refine O (e:=eB) (xs:=xs) (hlt) rfl ?_;repeat refine ai ?_
  rw[fY hlt] at hr;repeat refine ai ?_
  refine aj ?_ ?_<;>intro h2
  ·refine bd ?_
   rw[hr,h2];rfl
  ·repeat refine ai ?_
   exact bJ hlt hs (by rw[hr,h2];rfl)
 ·refine bd ?_
  rw[hr,jb (V h1)]
end Go.Vc
end
section
namespace Go.Vc
open Go.Proofs
set_option maxRecDepth 100000
theorem mY (s:Bs):Spec P 195 [.d (.str s)] (.d (.int .i64 (kg s))):=by
 refine Spec.of_vc aO aA [.tmp 2] Tryz.func195 rfl rfl rfl rfl (fun hok=>?_);have hs:s.length≤big:=hok.1;repeat refine ai ?_
 refine oc (eU _ _ _) ?_;repeat refine ai ?_
 refine aj ?_ ?_<;>intro h
 ·repeat refine ai ?_
  refine aj ?_ ?_<;>intro h2
  ·refine DD (d7 h).1 ?_
   repeat refine ai ?_
   refine aj ?_ ?_<;>intro h3
   ·refine nd ?_
    unfold kg;rw[m7 h h2 h3]
   ·have hgo:=oK h (.inr h3)
    repeat refine ai ?_
    refine kO (s) (fun i (n:Int)=>(0≤n∧n<10 ^ i)∧eA s=gt n (s.drop i)) (fun i (n:Int)=>[(0,.d (.str s)),(3,.d (.int .i64 n)),(4,.d (.int .i64 i))]) (fun i (n:Int)=>hp0) (⟨⟨Qar 0,by decide⟩,hgo⟩) ?_;intro i n hi hr;obtain ⟨hn,hr⟩:=hr;repeat refine ai ?_
    refine aj ?_ ?_<;>intro h1
    ·have hlt:i<s.length:=hM h1
     rw[i4 hlt] at hr;repeat refine ai ?_
     refine dl (hlt) ?_;repeat refine ai ?_
     refine aj ?_ ?_<;>intro h2
     ·repeat refine ai ?_
      refine dl (hlt) ?_;repeat refine ai ?_
      refine aj ?_ ?_<;>intro h3
      ·refine nd ?_
       unfold kg;rw[hr,h2,h3];rfl
      ·repeat refine ai ?_
       refine dl (hlt) ?_;repeat refine ai ?_
       obtain ⟨q1,q2⟩:=oI hn (by have:=(d7 h).2;omega) h2 h3;repeat refine ai ?_
       exact cH _ hlt hs ⟨q2,by rw[hr,h2,h3];rfl⟩ fun hw=>⟨rfl,rfl,⟨rfl,nd q1,nd hw,trivial⟩,trivial,trivial⟩
     ·refine nd ?_
      unfold kg;rw[hr,h2];rfl
    ·refine nd ?_
     unfold kg;rw[hr,gq (fV h1)]
  ·have hgo:=oK h (.inl h2)
   repeat refine ai ?_
   refine kO (s) (fun i (n:Int)=>(0≤n∧n<10 ^ i)∧eA s=gt n (s.drop i)) (fun i (n:Int)=>[(0,.d (.str s)),(3,.d (.int .i64 n)),(4,.d (.int .i64 i))]) (fun i (n:Int)=>hp0) (⟨⟨Qar 0,by decide⟩,hgo⟩) ?_;intro i n hi hr;obtain ⟨hn,hr⟩:=hr;repeat refine ai ?_
   refine aj ?_ ?_<;>intro h1
   ·have hlt:i<s.length:=hM h1
    rw[i4 hlt] at hr;repeat refine ai ?_
    refine dl (hlt) ?_;repeat refine ai ?_
    refine aj ?_ ?_<;>intro h2
    ·repeat refine ai ?_
     refine dl (hlt) ?_;repeat refine ai ?_
     refine aj ?_ ?_<;>intro h3
     ·refine nd ?_
      unfold kg;rw[hr,h2,h3];rfl
     ·repeat refine ai ?_
      refine dl (hlt) ?_;repeat refine ai ?_
      obtain ⟨q1,q2⟩:=oI hn (by have:=(d7 h).2;omega) h2 h3;repeat refine ai ?_
      exact cH _ hlt hs ⟨q2,by rw[hr,h2,h3];rfl⟩ fun hw=>⟨rfl,rfl,⟨rfl,nd q1,nd hw,trivial⟩,trivial,trivial⟩
    ·refine nd ?_
     unfold kg;rw[hr,h2];rfl
   ·refine nd ?_
    unfold kg;rw[hr,gq (fV h1)]
 ·refine nd ?_
  unfold kg;rw[tr h]
theorem mZ (f:GateField) (v:Bs):Spec P 205 [st f.e,.d (.str v)] (.d (.bool (dI f v))):=by
 refine Spec.of_vc aO aA [.tmp 4] Tryz.func205 rfl rfl rfl rfl (fun hok=>?_);have hs:v.length≤big:=hok.2.1;repeat refine ai ?_
 refine aj ?_ ?_<;>intro h1
 ·repeat refine ai ?_
  refine oc (mY _) ?_
  cases hq:eA v with
  |none=>
   repeat refine ai ?_
   refine aj ?_ ?_<;>intro h2
   ·have:=of_decide_eq_true h2
    unfold kg at this;rw[hq] at this;exact absurd this (by decide)
   ·refine bd ?_
    unfold dI
    rw[h1,hq];rfl
  |some n=>
   repeat refine ai ?_
   refine aj ?_ ?_<;>intro h2
   ·repeat refine ai ?_
    refine oc (eU _ _ _) ?_;refine bd ?_;unfold dI kg;rw[h1,hq];rfl
   ·have:=of_decide_eq_false h2
    unfold kg at this;rw[hq] at this;exact absurd (oJ hq) this
 ·repeat refine ai ?_
  refine aj ?_ ?_<;>intro h2
  ·repeat refine ai ?_
   refine aj ?_ ?_<;>intro h3
   ·repeat refine ai ?_
    refine oc (xT _ _) ?_;refine bd ?_;unfold dI;rw[h1,h2,h3];rfl
   ·refine bd ?_
    unfold dI;rw[h1,h2,h3];rfl
  ·repeat refine ai ?_
   refine aj ?_ ?_<;>intro h3
   ·have e:dI f v=(v.all dM&&(!(v==[])&&fJ (v.length:Int) f.least f.most)):=by
     unfold dI;rw[h1,h2,h3];rfl
    repeat refine ai ?_
    refine d8 (v) (fun i=>v.all dM=(v.drop i).all dM) (fun i=>[(1,.d (.str v)),(2,.ptr 0 0),(6,.d (.int .i64 i))]) (fun i=>⟨[(0,.cells 138 (f.e.map .d))],1,0⟩) (rfl) ?_;intro i hi hr;repeat refine ai ?_
    refine aj ?_ ?_<;>intro h4
    ·have hlt:i<v.length:=hM h4
     rw[aM hlt] at hr;repeat refine ai ?_
     refine dl (hlt) ?_;repeat refine ai ?_
     refine oc (eU _ _ _) ?_;repeat refine ai ?_
     refine aj ?_ ?_<;>intro h5
     ·refine bd ?_
      rw[vO] at h5;rw[e,hr,show dM v[i]=false from by simpa [dM] using h5];rfl
     ·rw[vO] at h5
      repeat refine ai ?_
      exact bJ hlt hs (by rw[hr,show dM v[i]=true from by simpa [dM] using h5];rfl)
    ·rw[cJ (fV h4)] at hr
     repeat refine ai ?_
     refine aj ?_ ?_<;>intro h5
     ·repeat refine ai ?_
      refine oc (eU _ _ _) ?_;refine bd ?_;rw[e,hr,h5];rfl
     ·refine bd ?_
      rw[e,hr,h5];rfl
   ·repeat refine ai ?_
    refine aj ?_ ?_<;>intro h4
    ·repeat refine ai ?_
     refine oc (bT _) ?_;refine bd ?_;unfold dI;rw[h1,h2,h3,h4];rfl
    ·refine bd ?_
     unfold dI;rw[h1,h2,h3,h4];rfl
theorem FV (f:GateField):Spec P 234 [st f.e] (.d (.bool (lK f))):=by
 refine Spec.of_vc aO aA [.tmp 2] Tryz.func234 rfl rfl rfl rfl (fun hok=>?_)
 repeat' first
  |refine ai ?_
  |(refine aj ?_ ?_<;>intro h)
 all_goals (refine bd ?_;(try simp only[Qac,cond_true,cond_false] at*);simp only[lK, *,bl,cond_true,cond_false])
end Go.Vc
end
section
namespace Go.Vc
open Go.Proofs
set_option maxRecDepth 100000
theorem HZ {s:Bs} (h1:decide ((s.length:Int)<1)=false) (h2:decide ((s.length:Int)>7)=false):(!fJ (s.length:Int) 1 7)=false:=by
 have h1:=of_decide_eq_false h1;have h2:=of_decide_eq_false h2;simp only[fJ,Qaa,Qag,decide_eq_true_eq];omega
theorem Ai {s:Bs} (h1:decide ((s.length:Int)<1)=true):eA s=none:=by
 have h1:=of_decide_eq_true h1;refine tr ?_;simp only[fJ,Qab,Qah,decide_eq_false_iff_not];omega
theorem Ah {s:Bs} (h1:decide ((s.length:Int)>7)=true):eA s=none:=by
 have h1:=of_decide_eq_true h1;refine tr ?_;simp only[fJ,Qab,Qah,decide_eq_false_iff_not];omega
theorem wg {n:Int} {i:Nat} {c:UInt8} (hn:0≤n∧n<10 ^ i) (hi:i<7) (h1:decide ((c.toNat:Int)<48)=false) (h2:decide ((c.toNat:Int)>57)=false):
 IntKind.i64.wrap (IntKind.i64.wrap (n*10)+IntKind.i64.wrap (IntKind.u8.wrap ((c.toNat:Int) - 48)))=n*10+(c.toNat:Int) - 48:=by
 have h1:=of_decide_eq_false h1;have h2:=of_decide_eq_false h2
 have hle:(10:Int) ^ i≤10 ^ 6:=by
  have:(10:Nat) ^ i≤10 ^ 6:=QaR (by decide) (by omega);have h3:((10 ^ i:Nat):Int)≤((10 ^ 6:Nat):Int):=Int.ofNat_le.2 this;simpa using h3
 simp only[IntKind.wrap_i64,IntKind.wrap_u8];generalize (10:Int) ^ i=p at*;omega
theorem td {a a':Int} {b b':Bool} (h:a=a') (h':b=b'):AV.tup [.d (.int .i64 a),.d (.bool b)]=AV.tup [.d (.int .i64 a'),.d (.bool b')]:=by rw[h,h']
theorem qh (s:Bs):Spec P 197 [.d (.str s)] (.tup [.d (.int .i64 (jD s)),.d (.bool (eA s).isSome)]):=by
 refine Spec.of_vc aO aA [.tmp 2,.tmp 3] Tryz.func197 rfl rfl rfl rfl (fun hok=>?_);have hs:s.length≤big:=hok.1;repeat refine ai ?_
 refine aj ?_ ?_<;>intro h
 ·repeat refine ai ?_
  refine aj ?_ ?_<;>intro h2
  ·have hlen:=HZ h h2
   refine DD (d7 hlen).1 ?_;repeat refine ai ?_
   refine aj ?_ ?_<;>intro h3
   ·repeat refine ai ?_
    refine aj ?_ ?_<;>intro h4
    ·refine td ?_ ?_
     ·unfold jD
      rw[m7 hlen h4 h3]
     ·rw[m7 hlen h4 h3];rfl
    ·have hgo:=oK hlen (.inl h4)
     repeat refine ai ?_
     refine kO (s) (fun i (n:Int)=>(0≤n∧n<10 ^ i)∧eA s=gt n (s.drop i)) (fun i (n:Int)=>[(0,.d (.str s)),(4,.d (.int .i64 n)),(25,.d (.int .i64 s.length)),(26,.d (.int .i64 i))]) (fun i (n:Int)=>hp0) (⟨⟨Qar 0,by decide⟩,hgo⟩) ?_;intro i n hi hr;obtain ⟨hn,hr⟩:=hr;repeat refine ai ?_
     refine aj ?_ ?_<;>intro h1
     ·have hlt:i<s.length:=hM h1
      rw[i4 hlt] at hr;repeat refine ai ?_
      refine dl (hlt) ?_;repeat refine ai ?_
      refine aj ?_ ?_<;>intro h2
      ·repeat refine ai ?_
       refine dl (hlt) ?_;repeat refine ai ?_
       refine aj ?_ ?_<;>intro h3
       ·refine td ?_ ?_
        ·unfold jD
         rw[hr,h2,h3];rfl
        ·rw[hr,h2,h3];rfl
       ·repeat refine ai ?_
        refine dl (hlt) ?_;repeat refine ai ?_
        have hi7:i<7:=by have:=(d7 hlen).2;omega
        obtain ⟨q1,q2⟩:=oI hn hi7 h2 h3;repeat refine ai ?_
        exact cH _ hlt hs ⟨q2,by rw[hr,h2,h3];rfl⟩ fun hw=>⟨rfl,rfl,⟨rfl,nd (wg hn hi7 h2 h3),rfl,nd hw,trivial⟩,trivial,trivial⟩
      ·refine td ?_ ?_
       ·unfold jD
        rw[hr,h2];rfl
       ·rw[hr,h2];rfl
     ·refine td ?_ ?_
      ·unfold jD
       rw[hr,gq (fV h1)]
      ·rw[hr,gq (fV h1)];rfl
   ·have hgo:=oK hlen (.inr h3)
    repeat refine ai ?_
    refine kO (s) (fun i (n:Int)=>(0≤n∧n<10 ^ i)∧eA s=gt n (s.drop i)) (fun i (n:Int)=>[(0,.d (.str s)),(4,.d (.int .i64 n)),(25,.d (.int .i64 s.length)),(26,.d (.int .i64 i))]) (fun i (n:Int)=>hp0) (⟨⟨Qar 0,by decide⟩,hgo⟩) ?_;intro i n hi hr;obtain ⟨hn,hr⟩:=hr;repeat refine ai ?_
    refine aj ?_ ?_<;>intro h1
    ·have hlt:i<s.length:=hM h1
     rw[i4 hlt] at hr;repeat refine ai ?_
     refine dl (hlt) ?_;repeat refine ai ?_
     refine aj ?_ ?_<;>intro h2
     ·repeat refine ai ?_
      refine dl (hlt) ?_;repeat refine ai ?_
      refine aj ?_ ?_<;>intro h3
      ·refine td ?_ ?_
       ·unfold jD
        rw[hr,h2,h3];rfl
       ·rw[hr,h2,h3];rfl
      ·repeat refine ai ?_
       refine dl (hlt) ?_;repeat refine ai ?_
       have hi7:i<7:=by have:=(d7 hlen).2;omega
       obtain ⟨q1,q2⟩:=oI hn hi7 h2 h3;repeat refine ai ?_
       exact cH _ hlt hs ⟨q2,by rw[hr,h2,h3];rfl⟩ fun hw=>⟨rfl,rfl,⟨rfl,nd (wg hn hi7 h2 h3),rfl,nd hw,trivial⟩,trivial,trivial⟩
     ·refine td ?_ ?_
      ·unfold jD
       rw[hr,h2];rfl
      ·rw[hr,h2];rfl
    ·refine td ?_ ?_
     ·unfold jD
      rw[hr,gq (fV h1)]
     ·rw[hr,gq (fV h1)];rfl
  ·refine td ?_ ?_
   ·unfold jD
    rw[Ah h2]
   ·rw[Ah h2];rfl
 ·refine td ?_ ?_
  ·unfold jD
   rw[Ai h]
  ·rw[Ai h];rfl
theorem Ic (f:GateField) (v:Bs):Spec P 270 [st f.e,.d (.str v)] (.d (.bool (match eA v with|some n=>fJ n f.least f.most|none=>false))):=by
 refine Spec.of_vc aO aA [.tmp 4] Tryz.func270 rfl rfl rfl rfl (fun hok=>?_);repeat refine ai ?_
 refine oc (qh v) ?_
 cases hq:eA v with
 |none=>
  repeat refine ai ?_
  refine an ?_
  rfl
 |some n=>
  repeat refine ai ?_
  refine ay ?_;have e:jD v=n:=by unfold jD;rw[hq]
  repeat' first
   |refine ai ?_
   |(refine aj ?_ ?_<;>intro h)
  all_goals (rw[e] at*;refine bd ?_;simp only[fJ, *,bl])
theorem GO (f:GateField) (kinds:List Bs):Spec P 271 [st f.e,.d (lS kinds)] (.d (.bool (mX f))):=by
 refine Spec.of_vc aO aA [.tmp 4] Tryz.func271 rfl rfl rfl rfl (fun hok=>?_)
 repeat' first
  |refine ai ?_
  |(refine aj ?_ ?_<;>intro h)
  |refine oc (dD _) ?_
 all_goals (refine bd ?_;(try simp only[Qac,cond_true,cond_false] at*);simp only[mX, *,bl,cond_true,cond_false])
theorem GP (f:GateField):Spec P 269 [st f.e] (.d (.bool (yY f))):=by
 refine Spec.of_vc aO aA [.tmp 2] Tryz.func269 rfl rfl rfl rfl (fun hok=>?_)
 repeat' first
  |refine ai ?_
  |(refine aj ?_ ?_<;>intro h)
 all_goals (refine bd ?_;(try simp only[Qac,cond_true,cond_false] at*);simp only[yY, *,bl,cond_true,cond_false])
theorem H7 (f:GateField) (s:Bs):Spec P 273 [st f.e,.d (.str s)] (.d (.bool (f.words.any (·==s)))):=by
 refine Spec.of_vc aO aA [.tmp 4] Tryz.func273 rfl rfl rfl rfl (fun hok=>?_)
 have hs:f.words.length≤big:=by
  have:=hok.1;simp only[st,AV.ok,GateField.e,List.map,dQ] at this;exact az this.2.2.2.2.1.1
 repeat refine ai ?_
 refine d8 (f.words) (fun i=>f.words.any (·==s)=(f.words.drop i).any (·==s)) (fun i=>[(1,.d (.str s)),(9,.d (lS f.words)),(10,.d (.int .i64 (f.words.map eB).length)),(11,.d (.int .i64 i))]) (fun i=>hp0) (rfl) ?_;intro i hi hr;repeat refine ai ?_
 refine aj ?_ ?_<;>intro h1
 ·have hlt:i<f.words.length:=U h1
  repeat refine ai ?_
  refine O (e:=eB) (xs:=f.words) (hlt) rfl ?_;repeat refine ai ?_
  rw[fY hlt] at hr;repeat refine ai ?_
  refine aj ?_ ?_<;>intro h2
  ·refine bd ?_
   rw[hr,h2];rfl
  ·repeat refine ai ?_
   exact bJ hlt hs (by rw[hr,h2];rfl)
 ·refine bd ?_
  rw[hr,jb (V h1)]
theorem GH (f:GateField) (kinds:List Bs):Spec P 274 [st f.e,.d (lS kinds)] (.d (.bool (mW f))):=by
 refine Spec.of_vc aO aA [.tmp 4] Tryz.func274 rfl rfl rfl rfl (fun hok=>?_)
 repeat' first
  |refine ai ?_
  |(refine aj ?_ ?_<;>intro h)
  |refine oc (gz _) ?_
 all_goals (refine bd ?_;(try simp only[Qac,cond_true,cond_false] at*);simp only[mW,fJ, *,bl,cond_true,cond_false])
theorem GI (f:GateField):Spec P 272 [st f.e] (.d (.bool (yX f))):=by
 refine Spec.of_vc aO aA [.tmp 2] Tryz.func272 rfl rfl rfl rfl (fun hok=>?_)
 repeat' first
  |refine ai ?_
  |(refine aj ?_ ?_<;>intro h)
 all_goals (refine bd ?_;(try simp only[Qac,cond_true,cond_false] at*);simp only[yX, *,bl,cond_true,cond_false])
def mP (f:GateField) (v:Bs):Bool:= !decide ((v.length:Int)<f.least)&&(!decide ((v.length:Int)>f.most)&&v.all dM)
theorem Le {f:GateField} {v:Bs} (h1:(f.kind==1)=false) (h2:(f.kind==2)=false) (h3:(f.kind==3)=true) (hv:(!(v==[]))=true):mP f v=dI f v:=by
 simp only[dI,mP,h1,h2,h3,hv,cond_true,cond_false,Qan,fJ];have e1:(!decide ((v.length:Int)<f.least))=decide ((v.length:Int)≥f.least):=by by_cases h:(v.length:Int)<f.least<;>simp[h]<;>omega
 have e2:(!decide ((v.length:Int)>f.most))=decide ((v.length:Int)≤f.most):=by by_cases h:(v.length:Int)>f.most<;>simp[h]<;>omega
 rw[e1,e2];generalize decide ((v.length:Int)≥f.least)=a;generalize decide ((v.length:Int)≤f.most)=b;generalize v.all dM=c;cases a<;>cases b<;>cases c<;>rfl
theorem H9 (f:GateField) (s:Bs):Spec P 276 [st f.e,.d (.str s)] (.d (.bool (mP f s))):=by
 refine Spec.of_vc aO aA [.tmp 4] Tryz.func276 rfl rfl rfl rfl (fun hok=>?_);have hs:s.length≤big:=hok.2.1;repeat refine ai ?_
 refine aj ?_ ?_<;>intro h
 ·repeat refine ai ?_
  refine aj ?_ ?_<;>intro h2
  ·refine bd ?_
   simp only[mP,h,h2,bl]
  ·have e:mP f s=s.all dM:=by
    simp only[mP,h,h2,bl]
   rw[e];repeat refine ai ?_
   refine d8 (s) (fun i=>s.all dM=(s.drop i).all dM) (fun i=>[(1,.d (.str s)),(21,.d (.int .i64 s.length)),(22,.d (.int .i64 i))]) (fun i=>hp0) (rfl) ?_;intro i hi hr;repeat refine ai ?_
   refine aj ?_ ?_<;>intro h1
   ·have hlt:i<s.length:=hM h1
    rw[aM hlt] at hr;repeat refine ai ?_
    refine dl (hlt) ?_;repeat refine ai ?_
    refine aj ?_ ?_<;>intro h3
    ·repeat refine ai ?_
     refine dl (hlt) ?_;repeat refine ai ?_
     refine aj ?_ ?_<;>intro h4
     ·refine bd ?_
      rw[hr,show dM s[i]=false from by have:=of_decide_eq_true h4;simp only[dM,fJ,Qah,decide_eq_false_iff_not];omega];rfl
     ·repeat refine ai ?_
      exact bJ hlt hs (by rw[hr,show dM s[i]=true from by have:=of_decide_eq_false h3;have:=of_decide_eq_false h4;simp only[dM,fJ,Qag,decide_eq_true_eq];omega];rfl)
    ·refine bd ?_
     rw[hr,show dM s[i]=false from by have:=of_decide_eq_true h3;simp only[dM,fJ,Qah,decide_eq_false_iff_not];omega];rfl
   ·refine bd ?_
    rw[hr,cJ (fV h1)]
 ·refine bd ?_
  simp only[mP,h,bl]
theorem GK (f:GateField) (kinds:List Bs):Spec P 277 [st f.e,.d (lS kinds)] (.d (.bool (mV f))):=by
 refine Spec.of_vc aO aA [.tmp 4] Tryz.func277 rfl rfl rfl rfl (fun hok=>?_)
 repeat' first
  |refine ai ?_
  |(refine aj ?_ ?_<;>intro h)
 all_goals (refine bd ?_;(try simp only[Qac,cond_true,cond_false] at*);simp only[mV, *,bl,cond_true,cond_false])
theorem GL (f:GateField):Spec P 275 [st f.e] (.d (.bool (yW f))):=by
 refine Spec.of_vc aO aA [.tmp 2] Tryz.func275 rfl rfl rfl rfl (fun hok=>?_)
 repeat' first
  |refine ai ?_
  |(refine aj ?_ ?_<;>intro h)
 all_goals (refine bd ?_;(try simp only[Qac,cond_true,cond_false] at*);simp only[yW, *,bl,cond_true,cond_false])
theorem Id (f:GateField) (s:Bs):Spec P 279 [st f.e,.d (.str s)] (.d (.bool (aX s))):=by
 refine Spec.of_vc aO aA [.tmp 4] Tryz.func279 rfl rfl rfl rfl (fun hok=>?_);repeat refine ai ?_
 refine oc (dD _) ?_;rfl
theorem GT (f:GateField) (xs:List Bs):Spec P 280 [st f.e,.d (lS xs)] (.d (.bool (mU xs f))):=by
 refine Spec.of_vc aO aA [.tmp 4] Tryz.func280 rfl rfl rfl rfl (fun hok=>?_);have hs:xs.length≤big:=az hok.2.1.1;repeat refine ai ?_
 refine kO (xs) (fun i (b:Bool)=>xs.any (·==f.to_)=(b||(xs.drop i).any (·==f.to_))) (fun i (b:Bool)=>[(2,.ptr 0 0),(5,.d (.bool b)),(8,.d (lS xs)),(9,.d (.int .i64 (xs.map eB).length)),(10,.d (.int .i64 i))]) (fun i (b:Bool)=>⟨[(0,.cells 293 (f.e.map .d))],1,0⟩) (rfl) ?_;intro i b hi hr;repeat refine ai ?_
 refine aj ?_ ?_<;>intro h1
 ·have hlt:i<xs.length:=U h1
  rw[fY hlt] at hr;repeat refine ai ?_
  refine O (e:=eB) (xs:=xs) (hlt) rfl ?_;repeat refine ai ?_
  refine aj ?_ ?_<;>intro h2
  ·repeat refine ai ?_
   exact cH _ hlt hs (by rw[hr,h2];exact (Bool.or_assoc _ _ _).symm)
  ·repeat refine ai ?_
   exact cH true hlt hs (by rw[hr,h2];simp)
 ·rw[jb (V h1),QaS] at hr
  repeat' first
   |refine ai ?_
   |(refine aj ?_ ?_<;>intro h)
  all_goals (refine bd ?_;(try simp only[Qac,cond_true,cond_false] at*);simp only[mU,hr,fJ,bne, *,bl,cond_true,cond_false])
theorem GU (f:GateField):Spec P 278 [st f.e] (.d (.bool (yV f))):=by
 refine Spec.of_vc aO aA [.tmp 2] Tryz.func278 rfl rfl rfl rfl (fun hok=>?_)
 repeat' first
  |refine ai ?_
  |(refine aj ?_ ?_<;>intro h)
 all_goals (refine bd ?_;(try simp only[Qac,cond_true,cond_false] at*);simp only[yV, *,bl,cond_true,cond_false])
end Go.Vc
end
section
namespace Go.Vc
open Go.Proofs
set_option maxRecDepth 100000
theorem Ks (f:GateField):Spec P 241 [st f.e] (.iface 289 (st f.e)):=by
 refine Spec.of_vc aO aA [.tmp 2] Tryz.func241 rfl rfl rfl rfl (fun hok=>?_);rfl
theorem Kr (f:GateField):Spec P 242 [st f.e] (.iface 291 (st f.e)):=by
 refine Spec.of_vc aO aA [.tmp 2] Tryz.func242 rfl rfl rfl rfl (fun hok=>?_);rfl
theorem Kq (f:GateField):Spec P 243 [st f.e] (.iface 292 (st f.e)):=by
 refine Spec.of_vc aO aA [.tmp 2] Tryz.func243 rfl rfl rfl rfl (fun hok=>?_);rfl
theorem Ko (f:GateField):Spec P 244 [st f.e] (.iface 293 (st f.e)):=by
 refine Spec.of_vc aO aA [.tmp 2] Tryz.func244 rfl rfl rfl rfl (fun hok=>?_);rfl
theorem wH (f:GateField) (h:f.kind=1):Spec P 235 [st f.e] (.tup [.iface 289 (st f.e),.d (.bool true)]):=by
 refine Spec.of_vc aO aA [.tmp 2,.tmp 3] Tryz.func235 rfl rfl rfl rfl (fun hok=>?_);repeat refine ai ?_
 refine ⟨_,(by rw[h]),?_⟩;repeat refine ai ?_
 refine oc (Ks f) ?_;rfl
theorem wG (f:GateField) (h:f.kind=2):Spec P 235 [st f.e] (.tup [.iface 291 (st f.e),.d (.bool true)]):=by
 refine Spec.of_vc aO aA [.tmp 2,.tmp 3] Tryz.func235 rfl rfl rfl rfl (fun hok=>?_);repeat refine ai ?_
 refine ⟨_,(by rw[h]),?_⟩;repeat refine ai ?_
 refine oc (Kr f) ?_;rfl
theorem wF (f:GateField) (h:f.kind=3):Spec P 235 [st f.e] (.tup [.iface 292 (st f.e),.d (.bool true)]):=by
 refine Spec.of_vc aO aA [.tmp 2,.tmp 3] Tryz.func235 rfl rfl rfl rfl (fun hok=>?_);repeat refine ai ?_
 refine ⟨_,(by rw[h]),?_⟩;repeat refine ai ?_
 refine oc (Kq f) ?_;rfl
theorem wE (f:GateField) (h:f.kind=4):Spec P 235 [st f.e] (.tup [.iface 293 (st f.e),.d (.bool true)]):=by
 refine Spec.of_vc aO aA [.tmp 2,.tmp 3] Tryz.func235 rfl rfl rfl rfl (fun hok=>?_);repeat refine ai ?_
 refine ⟨_,(by rw[h]),?_⟩;repeat refine ai ?_
 refine oc (Ko f) ?_;rfl
theorem En {k:Int} {a b c d:AV} (h1:(k==1)=false) (h2:(k==2)=false) (h3:(k==3)=false) (h4:(k==4)=false):
 av [([D.int .i64 1],a),([D.int .i64 2],b),([D.int .i64 3],c),([D.int .i64 4],d)] [D.int .i64 k]=none:=by
 have e:∀j:Int,(k==j)=(j==k):=fun j=>by rw[QaL,beq_iff_eq,beq_iff_eq];exact eq_comm
 rw[e] at h1 h2 h3 h4;simp only[av,bY,fv,e,h1,h2,h3,h4,Qal]
theorem wI (f:GateField) (h1:(f.kind==1)=false) (h2:(f.kind==2)=false) (h3:(f.kind==3)=false) (h4:(f.kind==4)=false):Spec P 235 [st f.e] (.tup [.val .nilIface,.d (.bool false)]):=by
 refine Spec.of_vc aO aA [.tmp 2,.tmp 3] Tryz.func235 rfl rfl rfl rfl (fun hok=>?_);repeat refine ai ?_
 refine ⟨_,En h1 h2 h3 h4,?_⟩;rfl
theorem cA {k:Int} (j:Int) (h:(k==j)=true):k=j:=by simpa using h
theorem fw (f:GateField) (v:Bs):Spec P 229 [st f.e,.d (.str v)] (.d (.bool (dI f v))):=by
 refine Spec.of_vc aO aA [.tmp 4] Tryz.func229 rfl rfl rfl rfl (fun hok=>?_);cases h1:f.kind==1
 ·cases h2:f.kind==2
  ·cases h3:f.kind==3
   ·cases h4:f.kind==4
    ·repeat refine ai ?_
     refine oc (wI f h1 h2 h3 h4) ?_;repeat refine ai ?_
     refine an ?_;refine bd ?_;simp only[dI,h1,h2,h3,h4,cond_false]
    ·repeat refine ai ?_
     refine oc (wE f (cA 4 h4)) ?_;repeat refine ai ?_
     refine ay ?_;repeat refine ai ?_
     refine aj ?_ ?_<;>intro hv
     ·repeat refine ai ?_
      refine oc (Id f v) ?_;refine bd ?_;simp only[dI,h1,h2,h3,h4,cond_true,cond_false]
     ·refine bd ?_
      have hv':v=[]:=by simpa using hv
      subst hv';simp only[dI,h1,h2,h3,h4,cond_true,cond_false];try rfl
   ·repeat refine ai ?_
    refine oc (wF f (cA 3 h3)) ?_;repeat refine ai ?_
    refine ay ?_;repeat refine ai ?_
    refine aj ?_ ?_<;>intro hv
    ·repeat refine ai ?_
     refine oc (H9 f v) ?_;refine bd ?_;exact Le h1 h2 h3 hv
    ·refine bd ?_
     have hv':v=[]:=by simpa using hv
     subst hv';simp only[dI,h1,h2,h3,cond_true,cond_false];try rfl
  ·repeat refine ai ?_
   refine oc (wG f (cA 2 h2)) ?_;repeat refine ai ?_
   refine ay ?_;repeat refine ai ?_
   refine aj ?_ ?_<;>intro hv
   ·repeat refine ai ?_
    refine oc (H7 f v) ?_;refine bd ?_;simp only[dI,h1,h2,hv,cond_true,cond_false,Qan]
   ·refine bd ?_
    have hv':v=[]:=by simpa using hv
    subst hv';simp only[dI,h1,h2,cond_true,cond_false];try rfl
 ·repeat refine ai ?_
  refine oc (wH f (cA 1 h1)) ?_;repeat refine ai ?_
  refine ay ?_;repeat refine ai ?_
  refine aj ?_ ?_<;>intro hv
  ·repeat refine ai ?_
   refine oc (Ic f v) ?_;refine bd ?_;simp only[dI,h1,cond_true];try rfl
  ·refine bd ?_
   have hv':v=[]:=by simpa using hv
   subst hv';simp only[dI,h1,cond_true];try rfl
end Go.Vc
end
section
namespace Go.Vc
open Go.Proofs
set_option maxRecDepth 100000
theorem ix (xs:List GateShape) (s:Bs):Spec P 191 [.d (ab xs),.d (.str s)] (.d (.int .i64 (dC (·.kind==s) xs))):=by
 refine Spec.of_vc aO aA [.tmp 4] Tryz.func191 rfl rfl rfl rfl (fun hok=>?_);have hs:xs.length≤big:=az hok.1.1;repeat refine ai ?_
 refine d8 (xs) (fun i=>dC (·.kind==s) xs=eR (·.kind==s) (xs.drop i) i) (fun i=>[(0,.d (ab xs)),(1,.d (.str s)),(5,.d (.int .i64 i))]) (fun i=>hp0) (rfl) ?_;intro i hi hr;repeat refine ai ?_
 refine aj ?_ ?_<;>intro h1
 ·have hlt:i<xs.length:=U h1
  repeat refine ai ?_
  refine O (e:=GateShape.e) (xs:=xs) (hlt) rfl ?_;repeat refine ai ?_
  rw[dR hlt] at hr;repeat refine ai ?_
  refine aj ?_ ?_<;>intro h2
  ·refine nd ?_
   rw[hr,h2];rfl
  ·repeat refine ai ?_
   exact bJ hlt hs (by rw[hr,h2];rfl)
 ·refine nd ?_
  rw[hr,eL (V h1)]
theorem iB (xs:List GateShape) (s:Bs):Spec P 198 [.d (ab xs),.d (.str s)] (.d (.int .i64 (dC (·.kind==s) xs))):=by
 refine Spec.of_vc aO aA [.tmp 4] Tryz.func198 rfl rfl rfl rfl (fun hok=>?_);have hs:xs.length≤big:=az hok.1.1;repeat refine ai ?_
 refine d8 (xs) (fun i=>dC (·.kind==s) xs=eR (·.kind==s) (xs.drop i) i) (fun i=>[(0,.d (ab xs)),(1,.d (.str s)),(7,.d (ab xs)),(8,.d (.int .i64 (xs.map GateShape.e).length)),(9,.d (.int .i64 i))]) (fun i=>hp0) (rfl) ?_;intro i hi hr;repeat refine ai ?_
 refine aj ?_ ?_<;>intro h1
 ·have hlt:i<xs.length:=U h1
  repeat refine ai ?_
  refine O (e:=GateShape.e) (xs:=xs) (hlt) rfl ?_;repeat refine ai ?_
  rw[dR hlt] at hr;repeat refine ai ?_
  refine aj ?_ ?_<;>intro h2
  ·refine nd ?_
   rw[hr,h2];rfl
  ·repeat refine ai ?_
   exact bJ hlt hs (by rw[hr,h2];rfl)
 ·refine nd ?_
  rw[hr,eL (V h1)]
theorem l8 (xs:List GateField) (s:Bs):Spec P 228 [.d (ad xs),.d (.str s)] (.d (.int .i64 (dC (·.name==s) xs))):=by
 refine Spec.of_vc aO aA [.tmp 4] Tryz.func228 rfl rfl rfl rfl (fun hok=>?_);have hs:xs.length≤big:=az hok.1.1;repeat refine ai ?_
 refine d8 (xs) (fun i=>dC (·.name==s) xs=eR (·.name==s) (xs.drop i) i) (fun i=>[(0,.d (ad xs)),(1,.d (.str s)),(7,.d (ad xs)),(8,.d (.int .i64 (xs.map GateField.e).length)),(9,.d (.int .i64 i))]) (fun i=>hp0) (rfl) ?_;intro i hi hr;repeat refine ai ?_
 refine aj ?_ ?_<;>intro h1
 ·have hlt:i<xs.length:=U h1
  repeat refine ai ?_
  refine O (e:=GateField.e) (xs:=xs) (hlt) rfl ?_;repeat refine ai ?_
  rw[dR hlt] at hr;repeat refine ai ?_
  refine aj ?_ ?_<;>intro h2
  ·refine nd ?_
   rw[hr,h2];rfl
  ·repeat refine ai ?_
   exact bJ hlt hs (by rw[hr,h2];rfl)
 ·refine nd ?_
  rw[hr,eL (V h1)]
theorem gU (xs:List GateTeam) (s:Bs):Spec P 96 [.d (ar xs),.d (.str s)] (.d (.int .i64 (dC (·.name==s) xs))):=by
 refine Spec.of_vc aO aA [.tmp 4] Tryz.func96 rfl rfl rfl rfl (fun hok=>?_);have hs:xs.length≤big:=az hok.1.1;repeat refine ai ?_
 refine d8 (xs) (fun i=>dC (·.name==s) xs=eR (·.name==s) (xs.drop i) i) (fun i=>[(0,.d (ar xs)),(1,.d (.str s)),(7,.d (ar xs)),(8,.d (.int .i64 (xs.map GateTeam.e).length)),(9,.d (.int .i64 i))]) (fun i=>hp0) (rfl) ?_;intro i hi hr;repeat refine ai ?_
 refine aj ?_ ?_<;>intro h1
 ·have hlt:i<xs.length:=U h1
  repeat refine ai ?_
  refine O (e:=GateTeam.e) (xs:=xs) (hlt) rfl ?_;repeat refine ai ?_
  rw[dR hlt] at hr;repeat refine ai ?_
  refine aj ?_ ?_<;>intro h2
  ·refine nd ?_
   rw[hr,h2];rfl
  ·repeat refine ai ?_
   exact bJ hlt hs (by rw[hr,h2];rfl)
 ·refine nd ?_
  rw[hr,eL (V h1)]
theorem jx (xs:List GateField) (s:Bs):Spec P 221 [.d (ad xs),.d (.str s)] (.d (.int .i64 (dC (·.name==s) xs))):=by
 refine Spec.of_vc aO aA [.tmp 4] Tryz.func221 rfl rfl rfl rfl (fun hok=>?_);have hs:xs.length≤big:=az hok.1.1;repeat refine ai ?_
 refine d8 (xs) (fun i=>dC (·.name==s) xs=eR (·.name==s) (xs.drop i) i) (fun i=>[(0,.d (ad xs)),(1,.d (.str s)),(5,.d (.int .i64 i))]) (fun i=>hp0) (rfl) ?_;intro i hi hr;repeat refine ai ?_
 refine aj ?_ ?_<;>intro h1
 ·have hlt:i<xs.length:=U h1
  repeat refine ai ?_
  refine O (e:=GateField.e) (xs:=xs) (hlt) rfl ?_;repeat refine ai ?_
  rw[dR hlt] at hr;repeat refine ai ?_
  refine aj ?_ ?_<;>intro h2
  ·refine nd ?_
   rw[hr,h2];rfl
  ·repeat refine ai ?_
   exact bJ hlt hs (by rw[hr,h2];rfl)
 ·refine nd ?_
  rw[hr,eL (V h1)]
theorem rS {α β:Type} {g:α→β} {p:β→Bool} {xs:List α}:(xs.map g).any p=xs.any (fun x=>p (g x)):=by
 induction xs with
 |nil=>rfl
 |cons x xs ih=>simp[Function.comp_def]
theorem qx (xs:List GateShape) (f:GateField):Spec P 219 [.d (ab xs),st f.e] (.d (.bool (al (xs.map (·.kind)) f))):=by
 refine Spec.of_vc aO aA [.tmp 4] Tryz.func219 rfl rfl rfl rfl (fun hok=>?_);repeat refine ai ?_
 refine oc (bT _) ?_;repeat refine ai ?_
 refine aj ?_ ?_<;>intro h1
 ·repeat refine ai ?_
  refine oc (FV _) ?_;repeat refine ai ?_
  refine aj ?_ ?_<;>intro h2
  ·repeat refine ai ?_
   refine aj ?_ ?_<;>intro h3
   ·repeat refine ai ?_
    refine oc (mZ _ _) ?_;repeat refine ai ?_
    refine aj ?_ ?_<;>intro h4
    ·refine bd ?_
     simp only[Qab,Qaa] at h1 h2 h3 h4;simp only[al,h1,h2,h3,h4,bl]
    ·simp only[Qab,Qaa] at h1 h2 h3 h4
     have e:al (xs.map (·.kind)) f=cZ (xs.map (·.kind)) f:=by simp only[al,h1,h2,h3,h4,bl]
     rw[e]
     repeat' first
      |refine ai ?_
      |(refine aj ?_ ?_<;>intro h)
      |refine oc (bT _) ?_
      |refine oc (eU _ _ _) ?_
      |refine oc (jd _) ?_
      |refine oc (ix _ _) ?_
     all_goals (refine bd ?_;(try simp only[Qac] at*);first|(simp only[cZ,mX,mW,mV,mU,rS,←o7 (xs:=xs), *,cond_true,cond_false,bl];done)|(exfalso;simp_all))
   ·simp only[Qab,Qaa] at h1 h2 h3
    have e:al (xs.map (·.kind)) f=cZ (xs.map (·.kind)) f:=by simp only[al,h1,h2,h3,bl]
    rw[e]
    repeat' first
     |refine ai ?_
     |(refine aj ?_ ?_<;>intro h)
     |refine oc (bT _) ?_
     |refine oc (eU _ _ _) ?_
     |refine oc (jd _) ?_
     |refine oc (ix _ _) ?_
    all_goals (refine bd ?_;(try simp only[Qac] at*);first|(simp only[cZ,mX,mW,mV,mU,rS,←o7 (xs:=xs), *,cond_true,cond_false,bl];done)|(exfalso;simp_all))
  ·refine bd ?_
   simp only[Qab,Qaa] at h1 h2;simp only[al,h1,h2,bl]
 ·refine bd ?_
  simp only[Qab,Qaa] at h1;simp only[al,h1,Qao]
end Go.Vc
end
section
namespace Go.Vc
open Go.Proofs
set_option maxRecDepth 100000
def G4 (v:AV) (s:Bs):List D×AV:=([.str s],v)
theorem pn (a b:Bs):(a==b)=(b==a):=by rw[QaL,beq_iff_eq,beq_iff_eq];exact eq_comm
theorem oO {v:AV} {s:Bs}:∀{pre:List Bs},pre.any (·==s)=false→av (pre.map (G4 v)) [.str s]=none
 |[],_=>rfl
 |x::pre,h=>by
  simp only[QaC,Qaz] at h;simp only[Qam,G4,av,bY,pn s x,h.1];exact oO h.2
theorem oN {v:AV} {s:Bs}:∀{pre:List Bs},pre.any (·==s)=true→av (pre.map (G4 v)) [.str s]=some v
 |[],h=>by simp at h
 |x::pre,h=>by
  simp only[Qam,G4,av,bY,pn s x]
  cases hx:(x==s) with
  |true=>rfl
  |false=>simp only[QaC,hx,Qaw] at h;exact oN h
theorem qF {v u:AV} {s:Bs}:∀{pre:List Bs},pre.any (·==s)=false→bp (pre.map (G4 v)) [.str s] u=pre.map (G4 v)++[([.str s],u)]
 |[],_=>rfl
 |x::pre,h=>by
  simp only[QaC,Qaz] at h;simp only[Qam,G4,bp,bY,pn s x,h.1,QaX];rw[←qF (v:=v) (u:=u) h.2]
theorem lu {s:Bs} {u:AV}:∀{es:List (List D×AV)},av (bp es [.str s] u) [.str s]=some u
 |[]=>by simp only[bp,av,bY,BEq.rfl]
 |(k,a)::es=>by
  cases hk:bY [.str s] k with
  |true=>simp only[bp,hk,av]
  |false=>simp only[bp,hk,av,lu]
theorem aS {t:Nat} {tk:TK} {es es':List (List D×AV)} (h:es=es'):some (AO.map t tk es)=some (AO.map t tk es'):=by rw[h]
theorem gH {v:AV} {n:Nat} (hv:v.lt n=true):∀{pre:List Bs},Fv n (pre.map (G4 v))
 |[]=>trivial
 |_::_=>⟨hv,gH hv⟩
theorem fC {kinds:List Bs} {fs:List GateField} {i:Nat} (h:i<fs.length) (hd:((fs.take i).map (·.name)).any (·==fs[i].name)=false):
 bp (((fs.take i).map (·.name)).map (G4 (.d (.int .i64 1)))) [.str fs[i].name] (.d (.int .i64 (IntKind.i64.wrap (0+1))))=((fs.take (i+1)).map (·.name)).map (G4 (.d (.int .i64 1))):=by
 rw[qF hd,Qak h];simp only[Qay,Qam,List.map_nil];rfl
theorem E8 (s:GateShape) (kinds:List Bs):Spec P 226 [st s.e,.d (lS kinds)] (.d (.bool (bH kinds s))):=by
 refine Spec.of_vc aO aA [.tmp 4] Tryz.func226 rfl rfl rfl rfl (fun hok=>?_)
 have hs:s.fields.length≤big:=by
  have:=hok.1;simp only[st,AV.ok,GateShape.e,List.map,dQ] at this;exact az this.2.1.1
 repeat refine ai ?_
 refine aj ?_ ?_<;>intro h0
 ·refine bd ?_
  rw[Qac] at h0;simp only[bH,h0];rfl
 rw[Qac] at h0;have e:bH kinds s=ml kinds [] s.fields:=by simp only[bH,h0];rfl
 rw[e];repeat refine ai ?_
 refine d8 (s.fields) (fun i=>ml kinds [] s.fields=ml kinds ((s.fields.take i).map (·.name)) (s.fields.drop i)) (fun i=>[(1,.d (lS kinds)),(5,.mapr 1),(16,.d (ad s.fields)),(17,.d (.int .i64 (s.fields.map GateField.e).length)),(18,.d (.int .i64 i))]) (fun i=>⟨[(1,.map 271 .str (((s.fields.take i).map (·.name)).map (G4 (.d (.int .i64 1)))))],2,0⟩) (rfl) ?_ ⟨rfl,rfl,⟨rfl,rfl,rfl,rfl,rfl,trivial⟩,⟨⟨rfl,gH rfl⟩,trivial⟩,⟨rfl,trivial⟩⟩;intro i hi hr;repeat refine ai ?_
 refine aj ?_ ?_<;>intro h1
 ·have hlt:i<s.fields.length:=U h1
  rw[qi hlt] at hr;repeat refine ai ?_
  refine O (e:=GateField.e) (xs:=s.fields) (hlt) rfl ?_;repeat refine ai ?_
  cases hd:((s.fields.take i).map (·.name)).any (·==s.fields[i].name) with
  |true=>
   refine ⟨_,oN hd,?_⟩;repeat refine ai ?_
   refine oc (dD _) ?_;repeat refine ai ?_
   refine aj ?_ ?_<;>intro h2
   ·repeat refine ai ?_
    refine ⟨_,lu,?_⟩;refine aj (fun _=>?_) (fun h=>absurd h (by decide));refine bd ?_;rw[hr,hd];rfl
   ·refine bd ?_
    rw[hr,hd];rfl
  |false=>
   rw[hd] at hr;refine ⟨_,oO hd,?_⟩;repeat refine ai ?_
   refine oc (dD _) ?_;repeat refine ai ?_
   refine aj ?_ ?_<;>intro h2
   ·repeat refine ai ?_
    refine ⟨_,lu,?_⟩;refine aj (fun h=>absurd h (by decide)) (fun _=>?_);simp only[Qab,Qaa] at h2;cases h1:s.fields[i].kind==1
    ·cases h2':s.fields[i].kind==2
     ·cases h3:s.fields[i].kind==3
      ·cases h4:s.fields[i].kind==4
       ·repeat refine ai ?_
        refine oc (wI s.fields[i] h1 h2' h3 h4) ?_;repeat refine ai ?_
        refine an ?_;refine bd ?_;rw[hr,show al kinds s.fields[i]=false from by simp only[al,cZ,h1,h2',h3,h4,cond_false,Qal]];rfl
       ·repeat refine ai ?_
        refine oc (wE s.fields[i] (cA 4 h4)) ?_;repeat refine ai ?_
        refine ay ?_;repeat refine ai ?_
        refine oc (GU _) ?_;repeat refine ai ?_
        refine aj ?_ ?_<;>intro h5
        ·repeat refine ai ?_
         refine oc (GT _ _) ?_;repeat refine ai ?_
         refine aj ?_ ?_<;>intro h6
         ·refine bd ?_
          simp only[Qab,Qaa] at h5 h6;have e1:=Hj (cA 4 h4);have e2:cZ kinds s.fields[i]=mU kinds s.fields[i]:=by simp only[cZ,h1,h2',h3,h4,cond_true,cond_false]
          rw[hr,show al kinds s.fields[i]=false from by simp only[al,e2,h6,Qal]];rfl
         ·simp only[Qab,Qaa] at h5 h6
          have e1:=Hj (cA 4 h4);have e2:cZ kinds s.fields[i]=mU kinds s.fields[i]:=by simp only[cZ,h1,h2',h3,h4,cond_true,cond_false]
          repeat refine ai ?_
          refine aj ?_ ?_<;>intro h7
          ·repeat refine ai ?_
           refine oc (fw _ _) ?_;repeat refine ai ?_
           refine aj ?_ ?_<;>intro h8
           ·refine bd ?_
            simp only[Qab,Qaa] at h7 h8;rw[hr,show al kinds s.fields[i]=false from by simp only[al,h7,h8,bl]];rfl
           ·simp only[Qab,Qaa] at h7 h8
            repeat refine ai ?_
            exact bJ hlt hs (by rw[hr,show al kinds s.fields[i]=true from by simp only[al,h2,e1,e2,h5,h6,h8,bl]];rfl) fun hw=>⟨rfl,rfl,⟨rfl,rfl,rfl,rfl,nd hw,trivial⟩,⟨⟨rfl,gH rfl⟩,trivial⟩,⟨aS (fC (kinds:=kinds) hlt hd),trivial⟩⟩
          ·simp only[Qab,Qaa] at h7
           repeat refine ai ?_
           exact bJ hlt hs (by rw[hr,show al kinds s.fields[i]=true from by simp only[al,h2,e1,e2,h5,h6,h7,bl]];rfl) fun hw=>⟨rfl,rfl,⟨rfl,rfl,rfl,rfl,nd hw,trivial⟩,⟨⟨rfl,gH rfl⟩,trivial⟩,⟨aS (fC (kinds:=kinds) hlt hd),trivial⟩⟩
        ·refine bd ?_
         simp only[Qab,Qaa] at h5;rw[hr,show al kinds s.fields[i]=false from by simp only[al,Hj (cA 4 h4),h5,bl]];rfl
      ·repeat refine ai ?_
       refine oc (wF s.fields[i] (cA 3 h3)) ?_;repeat refine ai ?_
       refine ay ?_;repeat refine ai ?_
       refine oc (GL _) ?_;repeat refine ai ?_
       refine aj ?_ ?_<;>intro h5
       ·repeat refine ai ?_
        refine oc (GK _ _) ?_;repeat refine ai ?_
        refine aj ?_ ?_<;>intro h6
        ·refine bd ?_
         simp only[Qab,Qaa] at h5 h6;have e1:=Hk (cA 3 h3);have e2:cZ kinds s.fields[i]=mV s.fields[i]:=by simp only[cZ,h1,h2',h3,cond_true,cond_false]
         rw[hr,show al kinds s.fields[i]=false from by simp only[al,e2,h6,Qal]];rfl
        ·simp only[Qab,Qaa] at h5 h6
         have e1:=Hk (cA 3 h3);have e2:cZ kinds s.fields[i]=mV s.fields[i]:=by simp only[cZ,h1,h2',h3,cond_true,cond_false]
         repeat refine ai ?_
         refine aj ?_ ?_<;>intro h7
         ·repeat refine ai ?_
          refine oc (fw _ _) ?_;repeat refine ai ?_
          refine aj ?_ ?_<;>intro h8
          ·refine bd ?_
           simp only[Qab,Qaa] at h7 h8;rw[hr,show al kinds s.fields[i]=false from by simp only[al,h7,h8,bl]];rfl
          ·simp only[Qab,Qaa] at h7 h8
           repeat refine ai ?_
           exact bJ hlt hs (by rw[hr,show al kinds s.fields[i]=true from by simp only[al,h2,e1,e2,h5,h6,h8,bl]];rfl) fun hw=>⟨rfl,rfl,⟨rfl,rfl,rfl,rfl,nd hw,trivial⟩,⟨⟨rfl,gH rfl⟩,trivial⟩,⟨aS (fC (kinds:=kinds) hlt hd),trivial⟩⟩
         ·simp only[Qab,Qaa] at h7
          repeat refine ai ?_
          exact bJ hlt hs (by rw[hr,show al kinds s.fields[i]=true from by simp only[al,h2,e1,e2,h5,h6,h7,bl]];rfl) fun hw=>⟨rfl,rfl,⟨rfl,rfl,rfl,rfl,nd hw,trivial⟩,⟨⟨rfl,gH rfl⟩,trivial⟩,⟨aS (fC (kinds:=kinds) hlt hd),trivial⟩⟩
       ·refine bd ?_
        simp only[Qab,Qaa] at h5;rw[hr,show al kinds s.fields[i]=false from by simp only[al,Hk (cA 3 h3),h5,bl]];rfl
     ·repeat refine ai ?_
      refine oc (wG s.fields[i] (cA 2 h2')) ?_;repeat refine ai ?_
      refine ay ?_;repeat refine ai ?_
      refine oc (GI _) ?_;repeat refine ai ?_
      refine aj ?_ ?_<;>intro h5
      ·repeat refine ai ?_
       refine oc (GH _ _) ?_;repeat refine ai ?_
       refine aj ?_ ?_<;>intro h6
       ·refine bd ?_
        simp only[Qab,Qaa] at h5 h6;have e1:=Hl (cA 2 h2');have e2:cZ kinds s.fields[i]=mW s.fields[i]:=by simp only[cZ,h1,h2',cond_true,cond_false]
        rw[hr,show al kinds s.fields[i]=false from by simp only[al,e2,h6,Qal]];rfl
       ·simp only[Qab,Qaa] at h5 h6
        have e1:=Hl (cA 2 h2');have e2:cZ kinds s.fields[i]=mW s.fields[i]:=by simp only[cZ,h1,h2',cond_true,cond_false]
        repeat refine ai ?_
        refine aj ?_ ?_<;>intro h7
        ·repeat refine ai ?_
         refine oc (fw _ _) ?_;repeat refine ai ?_
         refine aj ?_ ?_<;>intro h8
         ·refine bd ?_
          simp only[Qab,Qaa] at h7 h8;rw[hr,show al kinds s.fields[i]=false from by simp only[al,h7,h8,bl]];rfl
         ·simp only[Qab,Qaa] at h7 h8
          repeat refine ai ?_
          exact bJ hlt hs (by rw[hr,show al kinds s.fields[i]=true from by simp only[al,h2,e1,e2,h5,h6,h8,bl]];rfl) fun hw=>⟨rfl,rfl,⟨rfl,rfl,rfl,rfl,nd hw,trivial⟩,⟨⟨rfl,gH rfl⟩,trivial⟩,⟨aS (fC (kinds:=kinds) hlt hd),trivial⟩⟩
        ·simp only[Qab,Qaa] at h7
         repeat refine ai ?_
         exact bJ hlt hs (by rw[hr,show al kinds s.fields[i]=true from by simp only[al,h2,e1,e2,h5,h6,h7,bl]];rfl) fun hw=>⟨rfl,rfl,⟨rfl,rfl,rfl,rfl,nd hw,trivial⟩,⟨⟨rfl,gH rfl⟩,trivial⟩,⟨aS (fC (kinds:=kinds) hlt hd),trivial⟩⟩
      ·refine bd ?_
       simp only[Qab,Qaa] at h5;rw[hr,show al kinds s.fields[i]=false from by simp only[al,Hl (cA 2 h2'),h5,bl]];rfl
    ·repeat refine ai ?_
     refine oc (wH s.fields[i] (cA 1 h1)) ?_;repeat refine ai ?_
     refine ay ?_;repeat refine ai ?_
     refine oc (GP _) ?_;repeat refine ai ?_
     refine aj ?_ ?_<;>intro h5
     ·repeat refine ai ?_
      refine oc (GO _ _) ?_;repeat refine ai ?_
      refine aj ?_ ?_<;>intro h6
      ·refine bd ?_
       simp only[Qab,Qaa] at h5 h6;have e1:=Hm (cA 1 h1);have e2:cZ kinds s.fields[i]=mX s.fields[i]:=by simp only[cZ,h1,cond_true,cond_false]
       rw[hr,show al kinds s.fields[i]=false from by simp only[al,e2,h6,Qal]];rfl
      ·simp only[Qab,Qaa] at h5 h6
       have e1:=Hm (cA 1 h1);have e2:cZ kinds s.fields[i]=mX s.fields[i]:=by simp only[cZ,h1,cond_true,cond_false]
       repeat refine ai ?_
       refine aj ?_ ?_<;>intro h7
       ·repeat refine ai ?_
        refine oc (fw _ _) ?_;repeat refine ai ?_
        refine aj ?_ ?_<;>intro h8
        ·refine bd ?_
         simp only[Qab,Qaa] at h7 h8;rw[hr,show al kinds s.fields[i]=false from by simp only[al,h7,h8,bl]];rfl
        ·simp only[Qab,Qaa] at h7 h8
         repeat refine ai ?_
         exact bJ hlt hs (by rw[hr,show al kinds s.fields[i]=true from by simp only[al,h2,e1,e2,h5,h6,h8,bl]];rfl) fun hw=>⟨rfl,rfl,⟨rfl,rfl,rfl,rfl,nd hw,trivial⟩,⟨⟨rfl,gH rfl⟩,trivial⟩,⟨aS (fC (kinds:=kinds) hlt hd),trivial⟩⟩
       ·simp only[Qab,Qaa] at h7
        repeat refine ai ?_
        exact bJ hlt hs (by rw[hr,show al kinds s.fields[i]=true from by simp only[al,h2,e1,e2,h5,h6,h7,bl]];rfl) fun hw=>⟨rfl,rfl,⟨rfl,rfl,rfl,rfl,nd hw,trivial⟩,⟨⟨rfl,gH rfl⟩,trivial⟩,⟨aS (fC (kinds:=kinds) hlt hd),trivial⟩⟩
     ·refine bd ?_
      simp only[Qab,Qaa] at h5;rw[hr,show al kinds s.fields[i]=false from by simp only[al,Hm (cA 1 h1),h5,bl]];rfl
   ·refine bd ?_
    simp only[Qab,Qaa] at h2;rw[hr,show al kinds s.fields[i]=false from by simp only[al,h2,Qao]];rfl
 ·refine bd ?_
  rw[hr,uj (V h1)]
end Go.Vc
end
section
namespace Go.Vc
open Go.Proofs
set_option maxRecDepth 100000
theorem dO {t n:Nat} {a b:List (List D)} (h:a=b):some (AO.row t n a)=some (AO.row t n b):=by rw[h]
theorem Eh {α:Type} {xs:List α} {i:Nat} {g:α→List D} (h:i<xs.length):(xs.take i).map g++[g xs[i]]=(xs.take (i+1)).map g:=by
 rw[Qak h,Qay];rfl
theorem Bm {α:Type} {key:α→Bs}:∀{xs:List α} {p:Option Bs},ec id p (xs.map key)=ec key p xs
 |[],p=>by cases p<;>rfl
 |x::xs,p=>by simp only[Qam,ec,id,Bm]
theorem fU (xs:List GateShape):Spec P 210 [.d (ab xs)] (.d (.bool (aR xs))):=by
 refine Spec.of_vc aO aA [.tmp 2] Tryz.func210 rfl rfl rfl rfl (fun hok=>?_);have hs:xs.length≤big:=az hok.1.1;repeat refine ai ?_
 refine aj ?_ ?_<;>intro h0
 ·refine bd ?_
  rw[Qac] at h0;simp only[aR,h0];rfl
 rw[Qac] at h0;have e:aR xs=(asc (xs.map (·.kind))&&xs.all (bH (xs.map (·.kind)))):=by simp only[aR,h0,asc,Bm];rfl
 rw[e];repeat refine ai ?_
 refine aj (Qar 0) (aj (QaA _) (aj (dd hs) ?_));repeat refine ai ?_
 refine d8 (xs) (fun i=>True) (fun i=>[(0,.d (ab xs)),(3,.own 0),(14,.d (ab xs)),(15,.d (.int .i64 (xs.map GateShape.e).length)),(16,.d (.int .i64 i))]) (fun i=>⟨[(0,.row 9 1 ((xs.take i).map fun s=>[.str s.kind]))],1,0⟩) (trivial) ?_;intro i hi hr;repeat refine ai ?_
 refine aj ?_ ?_<;>intro h1
 ·have hlt:i<xs.length:=U h1
  repeat refine ai ?_
  refine O (e:=GateShape.e) (xs:=xs) (hlt) rfl ?_;repeat refine ai ?_
  refine aj (fun r hr=>by rw[List.mem_singleton.1 hr];rfl) ?_;repeat refine ai ?_
  refine aj (by simp only[Qac,Qai,QaV,List.length_nil];unfold big at*;omega) ?_;repeat refine ai ?_
  exact bJ hlt hs trivial fun hw=>⟨rfl,rfl,⟨rfl,rfl,rfl,rfl,nd hw,trivial⟩,⟨rfl,trivial⟩,⟨dO (Eh (g:=fun s=>[D.str s.kind]) hlt),trivial⟩⟩
 ·have hge:=V h1
  have ek:(xs.take i).map (fun s=>[D.str s.kind])=(xs.map (·.kind)).map eB:=by
   rw[QaM hge,List.map_map];rfl
  rw[ek];repeat refine ai ?_
  refine oc (gz (xs.map fun s:GateShape=>s.kind)) ?_;repeat refine ai ?_
  refine aj ?_ ?_<;>intro h2
  ·refine bd ?_
   simp only[Qab,Qaa] at h2;rw[h2];rfl
  ·simp only[Qab,Qaa] at h2
   rw[h2,Qan];repeat refine ai ?_
   refine d8 (xs) (fun i=>xs.all (bH (xs.map (·.kind)))=(xs.drop i).all (bH (xs.map (·.kind)))) (fun i=>[(3,.own 0),(29,.d (ab xs)),(30,.d (.int .i64 (xs.map GateShape.e).length)),(31,.d (.int .i64 i))]) (fun i=>⟨[(0,.row 9 1 ((xs.map (·.kind)).map eB))],1,0⟩) (rfl) ?_;intro i hi hr;repeat refine ai ?_
   refine aj ?_ ?_<;>intro h3
   ·have hlt:i<xs.length:=U h3
    rw[aM hlt] at hr;repeat refine ai ?_
    refine O (e:=GateShape.e) (xs:=xs) (hlt) rfl ?_;repeat refine ai ?_
    refine oc (E8 xs[i] (xs.map fun s:GateShape=>s.kind)) ?_;repeat refine ai ?_
    refine aj ?_ ?_<;>intro h4
    ·refine bd ?_
     simp only[Qab,Qaa] at h4;rw[hr,h4];rfl
    ·simp only[Qab,Qaa] at h4
     repeat refine ai ?_
     exact bJ hlt hs (by rw[hr,h4];rfl)
   ·refine bd ?_
    rw[hr,cJ (V h3)]
end Go.Vc
end
section
namespace Go.Vc
open Go.Proofs
set_option maxRecDepth 100000
theorem Dt {α:Type} {fs:List α} {j k:Nat} (hk:k≤fs.length) (h:decide ((j:Int)<(k:Int))=true):j<(fs.take k).length:=by
 have:=of_decide_eq_true h;rw[Qai];omega
theorem DJ {α:Type} {fs:List α} {j k:Nat} (hk:k≤fs.length) (h:decide ((j:Int)<(k:Int))=false):(fs.take k).length≤j:=by
 have:=of_decide_eq_false h;rw[Qai];omega
theorem sS (xs:List GateShape):Spec P 201 [.d (ab xs)] (.d (.bool (aR xs))):=by
 refine Spec.of_vc aO aA [.tmp 2] Tryz.func201 rfl rfl rfl rfl (fun hok=>?_);have hs:xs.length≤big:=az hok.1.1
 have hfs:∀i (h:i<xs.length),xs[i].fields.length≤big:=by
  intro i h;have h1:=okRows_iff.1 hok.1.2 _ (List.mem_map.2 ⟨xs[i],QaG h,rfl⟩);exact az h1.2.1.1
 repeat refine ai ?_
 refine aj ?_ ?_<;>intro h0
 ·refine bd ?_
  rw[Qac] at h0;simp only[aR,h0];rfl
 rw[Qac] at h0;have e:aR xs=(ec (·.kind) none xs&&xs.all (bH (xs.map (·.kind)))):=by simp only[aR,h0];rfl
 rw[e];repeat refine ai ?_
 refine d8 (xs) (fun i=>(ec (·.kind) none xs&&xs.all (bH (xs.map (·.kind))))=(ec (·.kind) (gS (·.kind) xs i) (xs.drop i)&&(xs.drop i).all (bH (xs.map (·.kind))))) (fun i=>[(0,.d (ab xs)),(3,.d (.int .i64 i))]) (fun i=>hp0) (rfl) ?_;intro i hi hr;repeat refine ai ?_
 refine aj ?_ ?_<;>intro h1
 ·have hlt:i<xs.length:=U h1
  repeat refine ai ?_
  refine O (e:=GateShape.e) (xs:=xs) (hlt) rfl ?_;repeat refine ai ?_
  refine ak ?_;repeat refine ai ?_
  refine oc (bT _) ?_;repeat refine ai ?_
  refine aj ?_ ?_<;>intro h2
  ·repeat refine ai ?_
   refine aj ?_ ?_<;>intro h3
   ·have h0':=ng h3
    repeat refine ai ?_
    refine aH (e:=GateShape.e) (xs:=xs) ((show i - 1<xs.length by omega)) (bc h0' hlt hs) rfl ?_;repeat refine ai ?_
    refine aj ?_ ?_<;>intro h4
    ·have ha:=jq (key:=fun s:GateShape=>s.kind) hlt h2 (.inr ⟨h0',h4⟩)
     repeat refine ai ?_
     refine aj ?_ ?_<;>intro h5
     ·refine bd ?_
      rw[Qac] at h5;rw[hr,aM hlt,show bH (xs.map (·.kind)) (xs[i]'hlt)=false from by unfold bH;rw[show decide (((xs[i]'hlt).fields.length:Int)>6)=true from h5];rfl,Qao,Qal]
     ·rw[Qac] at h5
      have es:bH (xs.map (·.kind)) (xs[i]'hlt)=ml (xs.map (·.kind)) [] (xs[i]'hlt).fields:=by unfold bH;rw[show decide (((xs[i]'hlt).fields.length:Int)>6)=false from h5];rfl
      rw[ha,aM hlt,es] at hr;have hro:=hr;clear hr
      refine ⟨fun m l h=>∃k:Nat,m=(xs[i]'hlt).fields.length - k∧k≤(xs[i]'hlt).fields.length∧ml (xs.map (·.kind)) [] (xs[i]'hlt).fields=ml (xs.map (·.kind)) (((xs[i]'hlt).fields.take k).map (·.name)) ((xs[i]'hlt).fields.drop k)∧l=[(0,.d (ab xs)),(3,.d (.int .i64 i)),(4,.ptr 0 0),(5,.d (.int .i64 k))]∧h=⟨[(0,.cells 164 ((xs[i]'hlt).e.map .d))],1,0⟩,
       ⟨_,_,_,⟨0,rfl,Qaj _,rfl,rfl,rfl⟩,rfl,rfl,⟨rfl,rfl,rfl,rfl,trivial⟩,⟨rfl,trivial⟩,⟨rfl,trivial⟩⟩,?_⟩
      rintro m l hh ⟨k,rfl,hk,hr,rfl,rfl⟩;repeat refine ai ?_
      refine aj ?_ ?_<;>intro h6
      ·have hlk:k<(xs[i]'hlt).fields.length:=U h6
       rw[qi hlk] at hr;repeat refine ai ?_
       refine O (e:=GateField.e) (xs:=(xs[i]'hlt).fields) (hlk) rfl ?_;repeat refine ai ?_
       refine oc (qx xs ((xs[i]'hlt).fields[k]'hlk)) ?_;repeat refine ai ?_
       refine aj ?_ ?_<;>intro h7
       ·refine bd ?_
        simp only[Qab,Qaa] at h7;rw[hro,hr,show al (xs.map (·.kind)) ((xs[i]'hlt).fields[k]'hlk)=false from h7];simp only[bl]
       ·simp only[Qab,Qaa] at h7
        have hr1:=hr;repeat refine ai ?_
        refine d8 (((xs[i]'hlt).fields.take k)) (fun j=>(((xs[i]'hlt).fields.take k).map (·.name)).any (·==((xs[i]'hlt).fields[k]'hlk).name)=(((xs[i]'hlt).fields.take k).drop j).any (fun f=>f.name==((xs[i]'hlt).fields[k]'hlk).name)) (fun j=>[(0,.d (ab xs)),(3,.d (.int .i64 i)),(4,.ptr 0 0),(5,.d (.int .i64 k)),(6,.d (.int .i64 j))]) (fun j=>⟨[(0,.cells 164 ((xs[i]'hlt).e.map .d))],1,0⟩) (rS) ?_;intro j hj hr;have hr':=hr;have hr:=hr1;clear hr1;repeat refine ai ?_
        refine aj ?_ ?_<;>intro h8
        ·have hlj:=Dt hk h8
         have hjf:j<(xs[i]'hlt).fields.length:=by have:=hlj;rw[Qai] at this;omega
         rw[fY hlj] at hr';repeat refine ai ?_
         refine ak ?_;repeat refine ai ?_
         refine O (e:=GateField.e) (xs:=(xs[i]'hlt).fields) (hjf) rfl ?_;repeat refine ai ?_
         refine O (e:=GateField.e) (xs:=(xs[i]'hlt).fields) (hlk) rfl ?_;repeat refine ai ?_
         have et:((xs[i]'hlt).fields.take k)[j]'hlj=(xs[i]'hlt).fields[j]'hjf:=QaU;rw[et] at hr';repeat refine ai ?_
         refine aj ?_ ?_<;>intro h9
         ·refine bd ?_
          rw[hro,hr,hr',h9];simp only[bl]
         ·repeat refine ai ?_
          exact bJ hlj (by rw[Qai];have:=hfs i hlt;omega) (by rw[hr',h9];rfl)
        ·rw[jb (DJ hk h8)] at hr'
         rw[hr',h7] at hr;repeat refine ai ?_
         exact bJ hlk (hfs i hlt) (by rw[hr];rfl)
      ·have hk':=V h6
       rw[uj hk'] at hr;repeat refine ai ?_
       exact bJ hlt hs (by rw[hro,hr,Qan])
    ·repeat refine ai ?_
     refine ay ?_;refine bd ?_;rw[hr,←lM (key:=fun s:GateShape=>s.kind) hlt h0' h4];rfl
   ·repeat refine ai ?_
    refine ay ?_;have ha:=jq (key:=fun s:GateShape=>s.kind) hlt h2 (.inl (rm h3));repeat refine ai ?_
    refine aj ?_ ?_<;>intro h5
    ·refine bd ?_
     rw[Qac] at h5;rw[hr,aM hlt,show bH (xs.map (·.kind)) (xs[i]'hlt)=false from by unfold bH;rw[show decide (((xs[i]'hlt).fields.length:Int)>6)=true from h5];rfl,Qao,Qal]
    ·rw[Qac] at h5
     have es:bH (xs.map (·.kind)) (xs[i]'hlt)=ml (xs.map (·.kind)) [] (xs[i]'hlt).fields:=by unfold bH;rw[show decide (((xs[i]'hlt).fields.length:Int)>6)=false from h5];rfl
     rw[ha,aM hlt,es] at hr;have hro:=hr;clear hr
     refine ⟨fun m l h=>∃k:Nat,m=(xs[i]'hlt).fields.length - k∧k≤(xs[i]'hlt).fields.length∧ml (xs.map (·.kind)) [] (xs[i]'hlt).fields=ml (xs.map (·.kind)) (((xs[i]'hlt).fields.take k).map (·.name)) ((xs[i]'hlt).fields.drop k)∧l=[(0,.d (ab xs)),(3,.d (.int .i64 i)),(4,.ptr 0 0),(5,.d (.int .i64 k))]∧h=⟨[(0,.cells 164 ((xs[i]'hlt).e.map .d))],1,0⟩,
      ⟨_,_,_,⟨0,rfl,Qaj _,rfl,rfl,rfl⟩,rfl,rfl,⟨rfl,rfl,rfl,rfl,trivial⟩,⟨rfl,trivial⟩,⟨rfl,trivial⟩⟩,?_⟩
     rintro m l hh ⟨k,rfl,hk,hr,rfl,rfl⟩;repeat refine ai ?_
     refine aj ?_ ?_<;>intro h6
     ·have hlk:k<(xs[i]'hlt).fields.length:=U h6
      rw[qi hlk] at hr;repeat refine ai ?_
      refine O (e:=GateField.e) (xs:=(xs[i]'hlt).fields) (hlk) rfl ?_;repeat refine ai ?_
      refine oc (qx xs ((xs[i]'hlt).fields[k]'hlk)) ?_;repeat refine ai ?_
      refine aj ?_ ?_<;>intro h7
      ·refine bd ?_
       simp only[Qab,Qaa] at h7;rw[hro,hr,show al (xs.map (·.kind)) ((xs[i]'hlt).fields[k]'hlk)=false from h7];simp only[bl]
      ·simp only[Qab,Qaa] at h7
       have hr1:=hr;repeat refine ai ?_
       refine d8 (((xs[i]'hlt).fields.take k)) (fun j=>(((xs[i]'hlt).fields.take k).map (·.name)).any (·==((xs[i]'hlt).fields[k]'hlk).name)=(((xs[i]'hlt).fields.take k).drop j).any (fun f=>f.name==((xs[i]'hlt).fields[k]'hlk).name)) (fun j=>[(0,.d (ab xs)),(3,.d (.int .i64 i)),(4,.ptr 0 0),(5,.d (.int .i64 k)),(6,.d (.int .i64 j))]) (fun j=>⟨[(0,.cells 164 ((xs[i]'hlt).e.map .d))],1,0⟩) (rS) ?_;intro j hj hr;have hr':=hr;have hr:=hr1;clear hr1;repeat refine ai ?_
       refine aj ?_ ?_<;>intro h8
       ·have hlj:=Dt hk h8
        have hjf:j<(xs[i]'hlt).fields.length:=by have:=hlj;rw[Qai] at this;omega
        rw[fY hlj] at hr';repeat refine ai ?_
        refine ak ?_;repeat refine ai ?_
        refine O (e:=GateField.e) (xs:=(xs[i]'hlt).fields) (hjf) rfl ?_;repeat refine ai ?_
        refine O (e:=GateField.e) (xs:=(xs[i]'hlt).fields) (hlk) rfl ?_;repeat refine ai ?_
        have et:((xs[i]'hlt).fields.take k)[j]'hlj=(xs[i]'hlt).fields[j]'hjf:=QaU;rw[et] at hr';repeat refine ai ?_
        refine aj ?_ ?_<;>intro h9
        ·refine bd ?_
         rw[hro,hr,hr',h9];simp only[bl]
        ·repeat refine ai ?_
         exact bJ hlj (by rw[Qai];have:=hfs i hlt;omega) (by rw[hr',h9];rfl)
       ·rw[jb (DJ hk h8)] at hr'
        rw[hr',h7] at hr;repeat refine ai ?_
        exact bJ hlk (hfs i hlt) (by rw[hr];rfl)
     ·have hk':=V h6
      rw[uj hk'] at hr;repeat refine ai ?_
      exact bJ hlt hs (by rw[hro,hr,Qan])
  ·repeat refine ai ?_
   refine an ?_;repeat refine ai ?_
   refine ay ?_;refine bd ?_;rw[hr,←lL (key:=fun s:GateShape=>s.kind) hlt h2];rfl
 ·refine bd ?_
  rw[hr,pq (V h1),cJ (V h1)];rfl
end Go.Vc
end
section
namespace Go.Vc
open Go.Proofs
set_option maxRecDepth 100000
theorem v4 (fs:List GateField) (n:Bs):Spec P 220 [.d (ad fs),.d (.str n)] (.d (.bool (fR fs n))):=by
 refine Spec.of_vc aO aA [.tmp 4] Tryz.func220 rfl rfl rfl rfl (fun hok=>?_);repeat refine ai ?_
 refine oc (jx _ _) ?_;repeat refine ai ?_
 refine aj ?_ ?_<;>intro h
 ·obtain ⟨j,hj,e,_⟩:=cW h
  repeat refine ai ?_
  refine aH (e:=GateField.e) (xs:=fs) (hj) (e) rfl ?_;repeat refine ai ?_
  refine bd ?_;rw[wd hj h e]
 ·refine bd ?_
  rw[jA h]
theorem qI (fs:List GateField) (m:GateMend) (n:Bs):HSpec P 227 [.d (.str n),.ptr 0 0] ⟨[(1,.cells 166 (m.e.map .d)),(0,.cells 162 [.d (ad fs)])],2,0⟩ (.d (.bool (fR fs n)))
 ⟨[(1,.cells 166 (m.e.map .d)),(0,.cells 162 [.d (ad fs)])],2,0⟩:=by
 refine HSpec.of_vc aO aA [.tmp 3] Tryz.func227 rfl rfl rfl rfl rfl (fun hok=>?_);repeat refine ai ?_
 refine oc (l8 _ _) ?_;repeat refine ai ?_
 refine aj ?_ ?_<;>intro h
 ·obtain ⟨j,hj,e,_⟩:=cW h
  repeat refine ai ?_
  refine aH (e:=GateField.e) (xs:=fs) (hj) (e) rfl ?_;repeat refine ai ?_
  refine aj (bd ?_) (aj rfl ⟨rfl,rfl,trivial,⟨rfl,rfl,trivial⟩,⟨rfl,rfl,trivial⟩⟩);rw[wd hj h e]
 ·refine aj (bd ?_) (aj rfl ⟨rfl,rfl,trivial,⟨rfl,rfl,trivial⟩,⟨rfl,rfl,trivial⟩⟩)
  rw[jA h]
theorem Fp:(true==true)=true:=rfl
theorem Fs:(false==false)=true:=rfl
theorem Fq:(true==false)=false:=rfl
theorem Fr:(false==true)=false:=rfl
theorem Jc {k:Int} (h:decide (k≥0)=true):decide (k<0)=false:=by
 have:=of_decide_eq_true h;exact decide_eq_false (by omega)
theorem Jd {k:Int} (h:decide (k≥0)=false):decide (k<0)=true:=by
 have:=of_decide_eq_false h;exact decide_eq_true (by omega)
theorem Av {fs:List GateField} {m:GateMend} (h:decide (dC (·.name==m.field) fs≥0)=false):jG fs m=false:=by
 unfold jG;rw[jA h];rfl
theorem wn {fs:List GateField} {m:GateMend} {j:Nat} (hj:j<fs.length) (e:dC (·.name==m.field) fs=(j:Int)):jG fs m=((fR fs m.field&&((m.when_==[]||fR fs m.when_)&&(m.from_==[]||fR fs m.from_)))&&
 (!((m.when_==m.field)||((m.from_==m.field)||((m.when_==[]&& !(m.is_==[]))||((m.put==[])==(m.from_==[])))))&&
  (m.put==[]||dI fs[j] m.put))):=by
 unfold jG;rw[e,Qav,Qaf hj]
set_option maxHeartbeats 4000000 in
theorem BR (xs:List GateShape) (m:GateMend):Spec P 202 [.d (ab xs),st m.e] (.d (.bool (bX xs m))):=by
 refine Spec.of_vc aO aA [.tmp 4] Tryz.func202 rfl rfl rfl rfl (fun hok=>?_);repeat refine ai ?_
 refine oc (ix _ _) ?_
 cases h:decide (dC (·.kind==m.kind) xs≥0) with
 |false=>
  refine aj (fun _=>?_) (fun h'=>absurd h' (by rw[Jd h];simp));refine bd ?_;unfold bX
  split<;>simp only[h,Qao]
 |true=>
  obtain ⟨j,hj,e,_⟩:=cW h;refine aj (fun h'=>absurd h' (by rw[Jc h];simp)) (fun _=>?_);repeat refine ai ?_
  refine aH (e:=GateShape.e) (xs:=xs) (hj) (e) rfl ?_;repeat refine ai ?_
  have em:bX xs m=jG xs[j].fields m:=by
   unfold bX;rw[e,Qav,Qaf hj];have:decide ((j:Int)≥0)=true:=decide_eq_true (by omega);simp only[this,Qan]
  rw[em]
  cases hp:decide (dC (fun x:GateField=>x.name==m.field) (xs[j]'hj).fields≥0) with
  |false=>
   rw[Av hp];have hp':=jA hp
   repeat' first
    |refine ai ?_
    |(refine aj ?_ ?_<;>intro h)
    |refine oc (v4 _ _) ?_
   all_goals first
    |rfl
    |(exfalso;simp_all;done)
  |true=>
   obtain ⟨j2,hj2,e2,_⟩:=cW hp;rw[wn hj2 e2]
   repeat' first
    |refine ai ?_
    |(refine aj ?_ ?_<;>intro h)
    |refine oc (v4 _ _) ?_
    |refine oc (jx _ _) ?_
    |refine oc (mZ _ _) ?_
    |refine ak ?_
    |refine aH (e:=GateField.e) (xs:=(xs[j]'hj).fields) hj2 e2 rfl ?_
   all_goals (refine bd ?_;(try simp only[Qab,Qaa] at*);first|(simp only[*,Fp,Fs,Fq,Fr,cond_true,cond_false,bl];done)|(cases hx:(m.put==[])<;>cases hy:(m.from_==[])<;>simp only[hx,hy,Fp,Fs,Fq,Fr,reduceCtorEq] at* <;>first|(simp only[*,Fp,Fs,Fq,Fr,cond_true,cond_false,bl];done)|(simp_all;done)))
set_option maxHeartbeats 4000000 in
theorem GQ (fs:List GateField) (m:GateMend):Spec P 211 [.d (ad fs),st m.e] (.d (.bool (jG fs m))):=by
 refine Spec.of_vc aO aA [.tmp 4] Tryz.func211 rfl rfl rfl rfl (fun hok=>?_)
 cases hp:decide (dC (fun x:GateField=>x.name==m.field) fs≥0) with
 |false=>
  rw[Av hp];have hp':=jA hp
  repeat' first
   |refine ai ?_
   |(refine aj ?_ ?_<;>intro h)
   |refine Or.inr (Or.inl (QaH _ (QaH _ (aj (aj rfl (qI fs m _)) ?_))))
  all_goals first
   |rfl
   |(exfalso;simp_all;done)
 |true=>
  obtain ⟨j2,hj2,e2,_⟩:=cW hp;rw[wn hj2 e2]
  repeat' first
   |refine ai ?_
   |(refine aj ?_ ?_<;>intro h)
   |refine Or.inr (Or.inl (QaH _ (QaH _ (aj (aj rfl (qI fs m _)) ?_))))
   |refine oc (l8 _ _) ?_
   |refine oc (fw _ _) ?_
   |refine ak ?_
   |refine aH (e:=GateField.e) (xs:=fs) hj2 e2 rfl ?_
  all_goals (refine bd ?_;(try simp only[Qab,Qaa] at*);first|(simp only[*,Fp,Fs,Fq,Fr,cond_true,cond_false,bl];done)|(cases hx:(m.put==[])<;>cases hy:(m.from_==[])<;>simp only[hx,hy,Fp,Fs,Fq,Fr,reduceCtorEq] at* <;>first|(simp only[*,Fp,Fs,Fq,Fr,cond_true,cond_false,bl];done)|(simp_all;done)))
end Go.Vc
end
section
namespace Go.Vc
open Go.Proofs
set_option maxRecDepth 100000
def dG (n:Bs):List GateTeam→Bs
 |[]=>[]
 |t::ts=>bif t.name==n then t.over else dG n ts
theorem B6 {n:Bs} {xs:List GateTeam} {i:Nat} (h:i<xs.length):dG n (xs.drop i)=bif xs[i].name==n then xs[i].over else dG n (xs.drop (i+1)):=by
 rw[Qad h];rfl
theorem EN {n:Bs} {xs:List GateTeam} {i:Nat} (h:xs.length≤i):dG n (xs.drop i)=[]:=by
 rw[Qae h];rfl
theorem k6 (xs:List GateTeam) (s:Bs):Spec P 194 [.d (ar xs),.d (.str s)] (.d (.str (dG s xs))):=by
 refine Spec.of_vc aO aA [.tmp 4] Tryz.func194 rfl rfl rfl rfl (fun hok=>?_);have hs:xs.length≤big:=az hok.1.1;repeat refine ai ?_
 refine d8 (xs) (fun i=>dG s xs=dG s (xs.drop i)) (fun i=>[(0,.d (ar xs)),(1,.d (.str s)),(5,.d (.int .i64 i))]) (fun i=>hp0) (rfl) ?_;intro i hi hr;repeat refine ai ?_
 refine aj ?_ ?_<;>intro h1
 ·have hlt:i<xs.length:=U h1
  repeat refine ai ?_
  refine O (e:=GateTeam.e) (xs:=xs) (hlt) rfl ?_;repeat refine ai ?_
  rw[B6 hlt] at hr;repeat refine ai ?_
  refine aj ?_ ?_<;>intro h2
  ·repeat refine ai ?_
   refine O (e:=GateTeam.e) (xs:=xs) (hlt) rfl ?_;repeat refine ai ?_
   refine sd ?_;rw[hr,h2];rfl
  ·repeat refine ai ?_
   exact bJ hlt hs (by rw[hr,h2];rfl)
 ·refine sd ?_
  rw[hr,EN (V h1)]
theorem nX (xs:List GateTeam) (s:Bs):Spec P 90 [.d (ar xs),.d (.str s)] (.d (.bool (xs.any (·.name==s)))):=by
 refine Spec.of_vc aO aA [.tmp 4] Tryz.func90 rfl rfl rfl rfl (fun hok=>?_);have hs:xs.length≤big:=az hok.1.1;repeat refine ai ?_
 refine d8 (xs) (fun i=>xs.any (·.name==s)=(xs.drop i).any (·.name==s)) (fun i=>[(0,.d (ar xs)),(1,.d (.str s)),(5,.d (.int .i64 i))]) (fun i=>hp0) (rfl) ?_;intro i hi hr;repeat refine ai ?_
 refine aj ?_ ?_<;>intro h1
 ·have hlt:i<xs.length:=U h1
  repeat refine ai ?_
  refine O (e:=GateTeam.e) (xs:=xs) (hlt) rfl ?_;repeat refine ai ?_
  rw[fY hlt] at hr;repeat refine ai ?_
  refine aj ?_ ?_<;>intro h2
  ·refine bd ?_
   rw[hr,h2];rfl
  ·repeat refine ai ?_
   exact bJ hlt hs (by rw[hr,h2];rfl)
 ·refine bd ?_
  rw[hr,jb (V h1)]
def nv (xs:List GateTeam):Nat→Bs→Bs
 |0,a=>a
 |k+1,a=>bif a==[] then a else nv xs k (dG a xs)
theorem nH (xs:List GateTeam):∀k,nv xs k []=[]
 |0=>rfl
 |_+1=>rfl
def gE (xs:List GateTeam):Bool:= !decide ((xs.length:Int)>12)&&
 ((ec (·.name) none xs&&xs.all (fun t=>t.over==[]||xs.any (·.name==t.over)))&&xs.all (fun t=>nv xs 4 t.over==[]))
theorem pU:∀{xs:List GateTeam} {n:Bs} {k j:Nat},eR (·.name==n) xs k=((k+j:Nat):Int)→∃h:j<xs.length,dG n xs=xs[j].over
 |[],n,k,j,h=>by simp only[eR] at h;omega
 |x::xs,n,k,j,h=>by
  simp only[eR] at h
  cases hx:x.name==n with
  |true=>
   rw[hx] at h;simp only[cond_true] at h;obtain rfl:j=0:=by omega
   exact ⟨by simp,by simp[dG,hx]⟩
  |false=>
   rw[hx] at h;simp only[cond_false] at h
   cases j with
   |zero=>
    rcases iJ (p:=fun t:GateTeam=>t.name==n) xs (k+1) with ⟨h1,_⟩|⟨j,_,h1,_⟩
    ·rw[h1] at h;omega
    ·rw[h1] at h;omega
   |succ j=>
    obtain ⟨h1,h2⟩:=pU (n:=n) (k:=k+1) (j:=j) (by rw[h];congr 1;omega);exact ⟨by simp;omega,by simp only[dG,hx,cond_false,h2,List.getElem_cons_succ]⟩
theorem kx:∀x:Bs,Op.bytesLess x x=false
 |[]=>rfl
 |a::x=>by
  simp only[Op.bytesLess,kx x,bl];exact decide_eq_false (by rw[UInt8.lt_iff_toNat_lt];omega)
theorem po:∀{x y z:Bs},Op.bytesLess x y=true→Op.bytesLess y z=true→Op.bytesLess x z=true
 |_,_,[],_,h=>by cases ‹Bs› <;>simp[Op.bytesLess] at h
 |_,[],_::_,h,_=>by cases ‹Bs› <;>simp[Op.bytesLess] at h
 |[],_::_,_::_,_,_=>rfl
 |a::x,b::y,c::z,h1,h2=>by
  simp only[Op.bytesLess,Bool.or_eq_true,Qag,decide_eq_true_eq,beq_iff_eq,UInt8.lt_iff_toNat_lt] at h1 h2 ⊢;rcases h1 with h1|⟨rfl,h1⟩
  ·rcases h2 with h2|⟨rfl,h2⟩
   ·exact .inl (by omega)
   ·exact .inl h1
  ·rcases h2 with h2|⟨rfl,h2⟩
   ·exact .inl h2
   ·exact .inr ⟨rfl,po h1 h2⟩
theorem pp {α:Type} {key:α→Bs}:∀{xs:List α} {q:Bs},ec key (some q) xs=true→∀y∈xs,Op.bytesLess q (key y)=true
 |[],_,_,y,hy=>by cases hy
 |x::xs,q,h,y,hy=>by
  simp only[ec,tV,Qag] at h;rcases List.mem_cons.1 hy with rfl|hy
  ·exact h.1.2
  ·exact po h.1.2 (pp h.2 y hy)
theorem wf:∀{xs:List GateTeam} {p:Option Bs},ec (·.name) p xs=true→∀t∈xs,dG t.name xs=t.over
 |[],_,_,t,ht=>by cases ht
 |x::xs,p,h,t,ht=>by
  simp only[ec,Qag] at h;simp only[dG];rcases List.mem_cons.1 ht with rfl|ht
  ·simp
  ·have hl:=pp h.2 t ht
   have:(x.name==t.name)=false:=by
    cases e:x.name==t.name with
    |false=>rfl
    |true=>
     have:=beq_iff_eq.1 e;rw[this,kx] at hl;cases hl
   rw[this];exact wf h.2 t ht
end Go.Vc
end
section
namespace Go.Vc
open Go.Proofs
set_option maxRecDepth 100000
def bW (xs:List GateTeam) (t:GateTeam):Bool:=t.over==[]||xs.any (·.name==t.over)
theorem idx_lt {α:Type} {p:α→Bool} {xs:List α}:decide (dC p xs<0)= !xs.any p:=by
 rw[←o7];by_cases h:dC p xs≥0
 ·rw[decide_eq_true h,decide_eq_false (by omega)];rfl
 ·rw[decide_eq_false h,decide_eq_true (by omega)];rfl
theorem vy (xs:List GateTeam):Spec P 182 [.d (ar xs)] (.d (.bool (gE xs))):=by
 refine Spec.of_vc aO aA [.tmp 2] Tryz.func182 rfl rfl rfl rfl (fun hok=>?_);have hs:xs.length≤big:=az hok.1.1;repeat refine ai ?_
 refine aj ?_ ?_<;>intro h0
 ·refine bd ?_
  rw[Qac] at h0;simp only[gE,h0];rfl
 rw[Qac] at h0;have e:gE xs=((ec (·.name) none xs&&xs.all (bW xs))&&xs.all (fun t=>nv xs 4 t.over==[])):=by simp only[gE,h0];rfl
 rw[e];repeat refine ai ?_
 refine d8 (xs) (fun i=>(ec (·.name) none xs&&xs.all (bW xs))=(ec (·.name) (gS (·.name) xs i) (xs.drop i)&&(xs.drop i).all (bW xs))) (fun i=>[(0,.d (ar xs)),(12,.d (ar xs)),(13,.d (.int .i64 (xs.map GateTeam.e).length)),(14,.d (.int .i64 i))]) (fun i=>hp0) (rfl) ?_;intro i hi hr;repeat refine ai ?_
 refine aj ?_ ?_<;>intro h1
 ·have hlt:i<xs.length:=U h1
  repeat refine ai ?_
  refine O (e:=GateTeam.e) (xs:=xs) (hlt) rfl ?_;repeat refine ai ?_
  refine ak ?_;repeat refine ai ?_
  refine oc (dD _) ?_;repeat refine ai ?_
  refine aj ?_ ?_<;>intro h2
  ·repeat refine ai ?_
   refine aj ?_ ?_<;>intro h3
   ·have h0':=ng h3
    repeat refine ai ?_
    refine aH (e:=GateTeam.e) (xs:=xs) ((show i - 1<xs.length by omega)) (bc h0' hlt hs) rfl ?_;repeat refine ai ?_
    refine aj ?_ ?_<;>intro h4
    ·have ha:=jq (key:=fun s:GateTeam=>s.name) hlt h2 (.inr ⟨h0',h4⟩)
     repeat refine ai ?_
     refine aj ?_ ?_<;>intro h5
     ·repeat refine ai ?_
      refine oc (gU xs (xs[i]'hlt).over) ?_;repeat refine ai ?_
      refine aj ?_ ?_<;>intro h6
      ·refine bd ?_
       rw[idx_lt] at h6;simp only[Qab,Qaa,cond_true,cond_false] at h5 h6;rw[hr,aM hlt,show bW xs (xs[i]'hlt)=false from by simp only[bW,h5,h6,QaS]];simp only[bl]
      ·rw[idx_lt] at h6
       simp only[Qab,Qaa,cond_true,cond_false] at h5 h6;repeat refine ai ?_
       exact bJ hlt hs (by rw[hr,ha,aM hlt,show bW xs (xs[i]'hlt)=true from by simp only[bW,h5,h6,Qaw]];rfl)
     ·repeat refine ai ?_
      refine an ?_;simp only[Qab,Qaa] at h5;repeat refine ai ?_
      exact bJ hlt hs (by rw[hr,ha,aM hlt,show bW xs (xs[i]'hlt)=true from by simp only[bW,h5,QaI]];rfl)
    ·repeat refine ai ?_
     refine ay ?_;refine bd ?_;rw[hr,←lM (key:=fun s:GateTeam=>s.name) hlt h0' h4];rfl
   ·repeat refine ai ?_
    refine ay ?_;have ha:=jq (key:=fun s:GateTeam=>s.name) hlt h2 (.inl (rm h3));repeat refine ai ?_
    refine aj ?_ ?_<;>intro h5
    ·repeat refine ai ?_
     refine oc (gU xs (xs[i]'hlt).over) ?_;repeat refine ai ?_
     refine aj ?_ ?_<;>intro h6
     ·refine bd ?_
      rw[idx_lt] at h6;simp only[Qab,Qaa,cond_true,cond_false] at h5 h6;rw[hr,aM hlt,show bW xs (xs[i]'hlt)=false from by simp only[bW,h5,h6,QaS]];simp only[bl]
     ·rw[idx_lt] at h6
      simp only[Qab,Qaa,cond_true,cond_false] at h5 h6;repeat refine ai ?_
      exact bJ hlt hs (by rw[hr,ha,aM hlt,show bW xs (xs[i]'hlt)=true from by simp only[bW,h5,h6,Qaw]];rfl)
    ·repeat refine ai ?_
     refine an ?_;simp only[Qab,Qaa] at h5;repeat refine ai ?_
     exact bJ hlt hs (by rw[hr,ha,aM hlt,show bW xs (xs[i]'hlt)=true from by simp only[bW,h5,QaI]];rfl)
  ·repeat refine ai ?_
   refine an ?_;repeat refine ai ?_
   refine ay ?_;refine bd ?_;rw[hr,←lL (key:=fun s:GateTeam=>s.name) hlt h2];rfl
 ·rw[pq (V h1),cJ (V h1)] at hr
  rw[hr];have hb:=Bool.and_eq_true_iff.1 hr
  have hin:∀t∈xs,t.over=[]∨xs.any (·.name==t.over)=true:=fun t ht=>by
   have:=List.all_eq_true.1 hb.2 t ht;simpa [bW] using this
  clear hr;repeat refine ai ?_
  refine d8 (xs) (fun i=>(true&&true&&xs.all (fun t=>nv xs 4 t.over==[]))=(xs.drop i).all (fun t=>nv xs 4 t.over==[])) (fun i=>[(0,.d (ar xs)),(51,.d (ar xs)),(52,.d (.int .i64 (xs.map GateTeam.e).length)),(53,.d (.int .i64 i))]) (fun i=>hp0) (rfl) ?_;intro i hi hr;repeat refine ai ?_
  refine aj ?_ ?_<;>intro h7
  ·have hlt:i<xs.length:=U h7
   rw[aM hlt] at hr;repeat refine ai ?_
   refine O (e:=GateTeam.e) (xs:=xs) (hlt) rfl ?_;repeat refine ai ?_
   refine ⟨fun m l h=>∃(c:Nat) (u:Bs),m=4 - c∧c≤4∧nv xs 4 (xs[i]'hlt).over=nv xs (4 - c) u∧(u=[]∨xs.any (·.name==u)=true)∧l=[(0,.d (ar xs)),(7,.d (.int .i64 c)),(8,.d (.str u)),(51,.d (ar xs)),(52,.d (.int .i64 (xs.map GateTeam.e).length)),(53,.d (.int .i64 i))]∧h=hp0,
     ⟨_,_,_,⟨0,_,rfl,Qaj _,rfl,hin _ (QaG hlt),rfl,rfl⟩,rfl,rfl,⟨rfl,rfl,rfl,rfl,rfl,rfl,trivial⟩,trivial,trivial⟩,?_⟩
   rintro m l hh ⟨c,u,rfl,hc,hu,hv,rfl,rfl⟩;repeat refine ai ?_
   refine aj ?_ ?_<;>intro h8
   ·have hne:(u==[])=false:=by simpa using h8
    have hany:xs.any (·.name==u)=true:=hv.resolve_left (by simpa using hne);repeat refine ai ?_
    refine aj ?_ ?_<;>intro h9
    ·refine bd ?_
     have hc4:c=4:=by
      have:=of_decide_eq_true h9;rw[IntKind.wrap_i64] at this;omega
     subst hc4;rw[hr,hu];simp only[Nat.sub_self,nv,hne,Qao]
    ·have hc3:c<4:=by
      have:=of_decide_eq_false h9;rw[IntKind.wrap_i64] at this;omega
     repeat refine ai ?_
     refine oc (gU xs u) ?_;obtain ⟨j,hj,ej,_⟩:=cW (p:=fun t:GateTeam=>t.name==u) (xs:=xs) (by rw[o7];exact hany);obtain ⟨_,eo⟩:=pU (n:=u) (xs:=xs) (k:=0) (j:=j) (by rw[QaF];exact ej);repeat refine ai ?_
     refine aH (e:=GateTeam.e) (xs:=xs) (hj) (ej) rfl ?_;repeat refine ai ?_
     refine ⟨_,_,_,⟨c+1,_,rfl,hc3,?_,?_,rfl,rfl⟩,by omega,rfl,rfl,⟨rfl,nd (aa hc3 (by decide)),rfl,rfl,rfl,rfl,trivial⟩,trivial,trivial⟩
     ·rw[hu,show 4 - c=(4 - (c+1))+1 from by omega]
      simp only[nv,hne,cond_false,eo]
     ·exact hin _ (QaG hj)
   ·have hue:u=[]:=by simpa using h8
    subst hue;rw[nH] at hu;repeat refine ai ?_
    exact bJ hlt hs (by rw[hr,hu];rfl)
  ·refine bd ?_
   rw[hr,cJ (V h7)]
end Go.Vc
end
section
namespace Go.Vc
open Go.Proofs
set_option maxRecDepth 100000
def di (xs:List GateTeam) (t:GateTeam):Bool:=bW xs t&&nv xs 5 t.name==[]
theorem wX {α:Type} {key:α→Bs}:∀{xs:List α} {p:Option Bs},ec key p xs=true→∀y∈xs,aX (key y)=true
 |[],_,_,y,hy=>by cases hy
 |x::xs,p,h,y,hy=>by
  simp only[ec,Qag] at h;rcases List.mem_cons.1 hy with rfl|hy
  ·exact h.1.1
  ·exact wX h.2 y hy
theorem Eg (xs:List GateTeam) (h0:decide ((xs.length:Int)>12)=false):gE xs=(ec (·.name) none xs&&xs.all (di xs)):=by
 have e:gE xs=((ec (·.name) none xs&&xs.all (bW xs))&&xs.all (fun t=>nv xs 4 t.over==[])):=by simp only[gE,h0];rfl
 rw[e]
 cases ha:ec (fun t:GateTeam=>t.name) none xs with
 |false=>rfl
 |true=>
  have hs:∀t∈xs,di xs t=(bW xs t&&nv xs 4 t.over==[]):=fun t ht=>by
   have hn:=wX ha t ht
   have:(t.name==[])=false:=by
    cases e:t.name==[] with
    |false=>rfl
    |true=>rw[beq_iff_eq.1 e] at hn;cases hn
   simp only[di,nv,this,cond_false,wf ha t ht]
  simp only[Qan];rw[QaL];simp only[Qag,QaW];constructor
  ·intro h t ht
   rw[hs t ht,Qag];exact ⟨h.1 t ht,h.2 t ht⟩
  ·intro h
   exact ⟨fun t ht=>(Bool.and_eq_true_iff.1 ((hs t ht)▸h t ht)).1,fun t ht=>(Bool.and_eq_true_iff.1 ((hs t ht)▸h t ht)).2⟩
theorem vk (xs:List GateTeam):Spec P 171 [.d (ar xs)] (.d (.bool (gE xs))):=by
 refine Spec.of_vc aO aA [.tmp 2] Tryz.func171 rfl rfl rfl rfl (fun hok=>?_);have hs:xs.length≤big:=az hok.1.1;repeat refine ai ?_
 refine aj ?_ ?_<;>intro h0
 ·refine bd ?_
  rw[Qac] at h0;simp only[gE,h0];rfl
 rw[Qac] at h0;rw[Eg xs h0];repeat refine ai ?_
 refine d8 (xs) (fun i=>(ec (·.name) none xs&&xs.all (di xs))=(ec (·.name) (gS (·.name) xs i) (xs.drop i)&&(xs.drop i).all (di xs))) (fun i=>[(0,.d (ar xs)),(3,.d (.int .i64 i))]) (fun i=>hp0) (rfl) ?_;intro i hi hr;repeat refine ai ?_
 refine aj ?_ ?_<;>intro h1
 ·have hlt:i<xs.length:=U h1
  repeat refine ai ?_
  refine O (e:=GateTeam.e) (xs:=xs) (hlt) rfl ?_;repeat refine ai ?_
  refine ak ?_;repeat refine ai ?_
  refine oc (bT _) ?_;repeat refine ai ?_
  refine aj ?_ ?_<;>intro h2
  ·repeat refine ai ?_
   refine aj ?_ ?_<;>intro h3
   ·have h0':=ng h3
    repeat refine ai ?_
    refine aH (e:=GateTeam.e) (xs:=xs) ((show i - 1<xs.length by omega)) (bc h0' hlt hs) rfl ?_;repeat refine ai ?_
    refine aj ?_ ?_<;>intro h4
    ·have ha:=jq (key:=fun s:GateTeam=>s.name) hlt h2 (.inr ⟨h0',h4⟩)
     repeat refine ai ?_
     refine aj ?_ ?_<;>intro h5
     ·repeat refine ai ?_
      refine oc (nX xs (xs[i]'hlt).over) ?_;repeat refine ai ?_
      refine aj ?_ ?_<;>intro h6
      ·refine bd ?_
       simp only[Qab,Qaa,cond_true,cond_false] at h5 h6;rw[hr,aM hlt,show di xs (xs[i]'hlt)=false from by simp only[di,bW,h5,h6,bl]];simp only[bl]
      ·simp only[Qab,Qaa,cond_true,cond_false] at h5 h6
       have ho:bW xs (xs[i]'hlt)=true:=by simp only[bW,h5,h6,Qaw]
       rw[ha,aM hlt] at hr
       refine ⟨fun m l h=>∃(c:Nat) (u:Bs),m=5 - c∧c≤5∧nv xs 5 (xs[i]'hlt).name=nv xs (5 - c) u∧l=[(0,.d (ar xs)),(3,.d (.int .i64 i)),(5,.d (.str u)),(6,.d (.int .i64 c))]∧h=hp0,
        ⟨_,_,_,⟨0,_,rfl,Qaj _,rfl,rfl,rfl⟩,rfl,rfl,⟨rfl,rfl,rfl,rfl,trivial⟩,trivial,trivial⟩,?_⟩
       rintro m l hh ⟨c,u,rfl,hc,hu,rfl,rfl⟩;repeat refine ai ?_
       refine aj ?_ ?_<;>intro h7
       ·have hc4:c≤4:=by have:=of_decide_eq_true h7;omega
        repeat refine ai ?_
        refine aj ?_ ?_<;>intro h8
        ·have hne:(u==[])=false:=by simpa using h8
         repeat refine ai ?_
         refine oc (k6 xs u) ?_;refine ⟨_,_,_,⟨c+1,_,rfl,by omega,?_,rfl,rfl⟩,by omega,rfl,rfl,⟨rfl,rfl,rfl,nd (aa (n:=5) (by omega) (by decide)),trivial⟩,trivial,trivial⟩;rw[hu,show 5 - c=(5 - (c+1))+1 from by omega];simp only[nv,hne,cond_false]
        ·have hue:u=[]:=by simpa using h8
         subst hue;rw[nH] at hu;repeat refine ai ?_
         refine an ?_;repeat refine ai ?_
         exact bJ hlt hs (by rw[hr,di,ho,hu];rfl)
       ·have hc5:c=5:=by have:=of_decide_eq_false h7;omega
        subst hc5
        replace hu:nv xs 5 (xs[i]'hlt).name=u:=hu
        repeat refine ai ?_
        refine aj ?_ ?_<;>intro h9
        ·refine bd ?_
         have hne:(u==[])=false:=by simpa using h9
         rw[hr,di,hu,hne];simp only[bl]
        ·have hue:u=[]:=by simpa using h9
         repeat refine ai ?_
         exact bJ hlt hs (by rw[hr,di,ho,hu,hue];rfl)
     ·repeat refine ai ?_
      refine an ?_;simp only[Qab,Qaa] at h5;have ho:bW xs (xs[i]'hlt)=true:=by simp only[bW,h5,QaI]
      rw[ha,aM hlt] at hr
      refine ⟨fun m l h=>∃(c:Nat) (u:Bs),m=5 - c∧c≤5∧nv xs 5 (xs[i]'hlt).name=nv xs (5 - c) u∧l=[(0,.d (ar xs)),(3,.d (.int .i64 i)),(5,.d (.str u)),(6,.d (.int .i64 c))]∧h=hp0,
       ⟨_,_,_,⟨0,_,rfl,Qaj _,rfl,rfl,rfl⟩,rfl,rfl,⟨rfl,rfl,rfl,rfl,trivial⟩,trivial,trivial⟩,?_⟩
      rintro m l hh ⟨c,u,rfl,hc,hu,rfl,rfl⟩;repeat refine ai ?_
      refine aj ?_ ?_<;>intro h7
      ·have hc4:c≤4:=by have:=of_decide_eq_true h7;omega
       repeat refine ai ?_
       refine aj ?_ ?_<;>intro h8
       ·have hne:(u==[])=false:=by simpa using h8
        repeat refine ai ?_
        refine oc (k6 xs u) ?_;refine ⟨_,_,_,⟨c+1,_,rfl,by omega,?_,rfl,rfl⟩,by omega,rfl,rfl,⟨rfl,rfl,rfl,nd (aa (n:=5) (by omega) (by decide)),trivial⟩,trivial,trivial⟩;rw[hu,show 5 - c=(5 - (c+1))+1 from by omega];simp only[nv,hne,cond_false]
       ·have hue:u=[]:=by simpa using h8
        subst hue;rw[nH] at hu;repeat refine ai ?_
        refine an ?_;repeat refine ai ?_
        exact bJ hlt hs (by rw[hr,di,ho,hu];rfl)
      ·have hc5:c=5:=by have:=of_decide_eq_false h7;omega
       subst hc5
       replace hu:nv xs 5 (xs[i]'hlt).name=u:=hu
       repeat refine ai ?_
       refine aj ?_ ?_<;>intro h9
       ·refine bd ?_
        have hne:(u==[])=false:=by simpa using h9
        rw[hr,di,hu,hne];simp only[bl]
       ·have hue:u=[]:=by simpa using h9
        repeat refine ai ?_
        exact bJ hlt hs (by rw[hr,di,ho,hu,hue];rfl)
    ·repeat refine ai ?_
     refine ay ?_;refine bd ?_;rw[hr,←lM (key:=fun s:GateTeam=>s.name) hlt h0' h4];rfl
   ·repeat refine ai ?_
    refine ay ?_;have ha:=jq (key:=fun s:GateTeam=>s.name) hlt h2 (.inl (rm h3));repeat refine ai ?_
    refine aj ?_ ?_<;>intro h5
    ·repeat refine ai ?_
     refine oc (nX xs (xs[i]'hlt).over) ?_;repeat refine ai ?_
     refine aj ?_ ?_<;>intro h6
     ·refine bd ?_
      simp only[Qab,Qaa,cond_true,cond_false] at h5 h6;rw[hr,aM hlt,show di xs (xs[i]'hlt)=false from by simp only[di,bW,h5,h6,bl]];simp only[bl]
     ·simp only[Qab,Qaa,cond_true,cond_false] at h5 h6
      have ho:bW xs (xs[i]'hlt)=true:=by simp only[bW,h5,h6,Qaw]
      rw[ha,aM hlt] at hr
      refine ⟨fun m l h=>∃(c:Nat) (u:Bs),m=5 - c∧c≤5∧nv xs 5 (xs[i]'hlt).name=nv xs (5 - c) u∧l=[(0,.d (ar xs)),(3,.d (.int .i64 i)),(5,.d (.str u)),(6,.d (.int .i64 c))]∧h=hp0,
       ⟨_,_,_,⟨0,_,rfl,Qaj _,rfl,rfl,rfl⟩,rfl,rfl,⟨rfl,rfl,rfl,rfl,trivial⟩,trivial,trivial⟩,?_⟩
      rintro m l hh ⟨c,u,rfl,hc,hu,rfl,rfl⟩;repeat refine ai ?_
      refine aj ?_ ?_<;>intro h7
      ·have hc4:c≤4:=by have:=of_decide_eq_true h7;omega
       repeat refine ai ?_
       refine aj ?_ ?_<;>intro h8
       ·have hne:(u==[])=false:=by simpa using h8
        repeat refine ai ?_
        refine oc (k6 xs u) ?_;refine ⟨_,_,_,⟨c+1,_,rfl,by omega,?_,rfl,rfl⟩,by omega,rfl,rfl,⟨rfl,rfl,rfl,nd (aa (n:=5) (by omega) (by decide)),trivial⟩,trivial,trivial⟩;rw[hu,show 5 - c=(5 - (c+1))+1 from by omega];simp only[nv,hne,cond_false]
       ·have hue:u=[]:=by simpa using h8
        subst hue;rw[nH] at hu;repeat refine ai ?_
        refine an ?_;repeat refine ai ?_
        exact bJ hlt hs (by rw[hr,di,ho,hu];rfl)
      ·have hc5:c=5:=by have:=of_decide_eq_false h7;omega
       subst hc5
       replace hu:nv xs 5 (xs[i]'hlt).name=u:=hu
       repeat refine ai ?_
       refine aj ?_ ?_<;>intro h9
       ·refine bd ?_
        have hne:(u==[])=false:=by simpa using h9
        rw[hr,di,hu,hne];simp only[bl]
       ·have hue:u=[]:=by simpa using h9
        repeat refine ai ?_
        exact bJ hlt hs (by rw[hr,di,ho,hu,hue];rfl)
    ·repeat refine ai ?_
     refine an ?_;simp only[Qab,Qaa] at h5;have ho:bW xs (xs[i]'hlt)=true:=by simp only[bW,h5,QaI]
     rw[ha,aM hlt] at hr
     refine ⟨fun m l h=>∃(c:Nat) (u:Bs),m=5 - c∧c≤5∧nv xs 5 (xs[i]'hlt).name=nv xs (5 - c) u∧l=[(0,.d (ar xs)),(3,.d (.int .i64 i)),(5,.d (.str u)),(6,.d (.int .i64 c))]∧h=hp0,
      ⟨_,_,_,⟨0,_,rfl,Qaj _,rfl,rfl,rfl⟩,rfl,rfl,⟨rfl,rfl,rfl,rfl,trivial⟩,trivial,trivial⟩,?_⟩
     rintro m l hh ⟨c,u,rfl,hc,hu,rfl,rfl⟩;repeat refine ai ?_
     refine aj ?_ ?_<;>intro h7
     ·have hc4:c≤4:=by have:=of_decide_eq_true h7;omega
      repeat refine ai ?_
      refine aj ?_ ?_<;>intro h8
      ·have hne:(u==[])=false:=by simpa using h8
       repeat refine ai ?_
       refine oc (k6 xs u) ?_;refine ⟨_,_,_,⟨c+1,_,rfl,by omega,?_,rfl,rfl⟩,by omega,rfl,rfl,⟨rfl,rfl,rfl,nd (aa (n:=5) (by omega) (by decide)),trivial⟩,trivial,trivial⟩;rw[hu,show 5 - c=(5 - (c+1))+1 from by omega];simp only[nv,hne,cond_false]
      ·have hue:u=[]:=by simpa using h8
       subst hue;rw[nH] at hu;repeat refine ai ?_
       refine an ?_;repeat refine ai ?_
       exact bJ hlt hs (by rw[hr,di,ho,hu];rfl)
     ·have hc5:c=5:=by have:=of_decide_eq_false h7;omega
      subst hc5
      replace hu:nv xs 5 (xs[i]'hlt).name=u:=hu
      repeat refine ai ?_
      refine aj ?_ ?_<;>intro h9
      ·refine bd ?_
       have hne:(u==[])=false:=by simpa using h9
       rw[hr,di,hu,hne];simp only[bl]
      ·have hue:u=[]:=by simpa using h9
       repeat refine ai ?_
       exact bJ hlt hs (by rw[hr,di,ho,hu,hue];rfl)
  ·repeat refine ai ?_
   refine an ?_;repeat refine ai ?_
   refine ay ?_;refine bd ?_;rw[hr,←lL (key:=fun s:GateTeam=>s.name) hlt h2];rfl
 ·refine bd ?_
  rw[hr,pq (V h1),cJ (V h1)];rfl
end Go.Vc
end
section
namespace Go.Vc
open Go.Proofs
set_option maxRecDepth 100000
def kG:Option Int→Int→Bool
 |none,_=>true
 |some q,x=> !decide (q≥x)
def nu:Option Int→List Int→Bool
 |_,[]=>true
 |p,x::xs=>(fJ x 1 5&&kG p x)&&nu (some x) xs
def eP (xs:List Int):Nat→Option Int
 |0=>none
 |j+1=>xs[j]?
section
variable {xs:List Int} {i:Nat}
theorem gO (h:i<xs.length):nu (eP xs i) (xs.drop i)=((fJ xs[i] 1 5&&kG (eP xs i) xs[i])&&nu (eP xs (i+1)) (xs.drop (i+1))):=by
 rw[Qad h];simp only[nu,eP,Qaf h]
theorem iV {p:Option Int} (h:xs.length≤i):nu p (xs.drop i)=true:=by
 rw[Qae h];rfl
theorem bA (h:i<xs.length) (h0:0<i):kG (eP xs i) xs[i]= !decide (xs[i - 1]'(by omega)≥xs[i]):=by
 obtain ⟨j,rfl⟩:∃j,i=j+1:=⟨i - 1,by omega⟩;simp only[eP,Qaf (show j<xs.length by omega),kG,Nat.add_sub_cancel]
end
def bn (r:GateRule):Bool:= !((r.verbs.length:Int)==0)&&(!decide ((r.prefix_.length:Int)>16)&&((r.kind==[]||aX r.kind)&&((r.team==[]||aX r.team)&&(r.prefix_.all co&&nu none r.verbs))))
theorem kn (xs ys:List Bs):Spec P 184 [.d (lS xs),.d (lS ys)] (.d (.bool (xs==ys))):=by
 refine Spec.of_vc aO aA [.tmp 4] Tryz.func184 rfl rfl rfl rfl (fun hok=>?_);have hs:xs.length≤big:=az hok.1.1;repeat refine ai ?_
 refine aj ?_ ?_<;>intro h0
 ·refine bd ?_
  rw[Qac,Qac] at h0
  cases e:xs==ys with
  |false=>rfl
  |true=>rw[beq_iff_eq.1 e] at h0;simp at h0
 ·rw[Qac,Qac] at h0
  have hl:xs.length=ys.length:=by simp at h0;omega
  repeat refine ai ?_
  refine d8 (xs) (fun i=>(xs==ys)=(xs.drop i==ys.drop i)) (fun i=>[(0,.d (lS xs)),(1,.d (lS ys)),(12,.d (.int .i64 (xs.map eB).length)),(13,.d (.int .i64 i))]) (fun i=>hp0) (rfl) ?_;intro i hi hr;repeat refine ai ?_
  refine aj ?_ ?_<;>intro h1
  ·have hlt:i<xs.length:=U h1
   have hlt':i<ys.length:=by omega
   rw[Qad hlt,Qad hlt',List.cons_beq_cons] at hr;repeat refine ai ?_
   refine ak ?_;repeat refine ai ?_
   refine O (e:=eB) (xs:=xs) (hlt) rfl ?_;repeat refine ai ?_
   refine O (e:=eB) (xs:=ys) (hlt') rfl ?_;repeat refine ai ?_
   refine aj ?_ ?_<;>intro h2
   ·refine bd ?_
    simp only[Qab,Qaa] at h2;rw[hr,h2];rfl
   ·simp only[Qab,Qaa] at h2
    repeat refine ai ?_
    exact bJ hlt hs (by rw[hr,h2];rfl)
  ·refine bd ?_
   have hge:=V h1;rw[hr,Qae hge,Qae (by omega)];rfl
end Go.Vc
end
section
namespace Go.Vc
open Go.Proofs
set_option maxRecDepth 100000
theorem yy {x:Int} (h:decide (x<1)=true):fJ x 1 5=false:=by
 have:=of_decide_eq_true h;simp only[fJ,Qah,decide_eq_false_iff_not];omega
theorem yA {x:Int} (h:decide (x>5)=true):fJ x 1 5=false:=by
 have:=of_decide_eq_true h;simp only[fJ,Qah,decide_eq_false_iff_not];omega
theorem yz {x:Int} (h:decide (x<1)=false) (h2:decide (x>5)=false):fJ x 1 5=true:=by
 have:=of_decide_eq_false h;have:=of_decide_eq_false h2;simp only[fJ,Qag,decide_eq_true_eq];omega
theorem GN (r:GateRule):Spec P 187 [st r.e] (.d (.bool (bn r))):=by
 refine Spec.of_vc aO aA [.tmp 2] Tryz.func187 rfl rfl rfl rfl (fun hok=>?_)
 have hs:r.verbs.length≤big:=by
  have:=hok.1;simp only[st,AV.ok,GateRule.e,List.map,dQ] at this;exact az this.1.1
 repeat refine ai ?_
 refine aj ?_ ?_<;>intro h0
 ·rw[Qac] at h0
  have hv:=h0;repeat refine ai ?_
  refine aj ?_ ?_<;>intro h1
  ·repeat refine ai ?_
   refine oc (dD _) ?_;repeat refine ai ?_
   refine aj ?_ ?_<;>intro h1'
   ·simp only[Qab,Qaa] at h1 h1'
    have hk:(r.kind==[]||aX r.kind)=true:=by rw[h1'];simp
    repeat refine ai ?_
    refine aj ?_ ?_<;>intro h2
    ·repeat refine ai ?_
     refine oc (dD _) ?_;repeat refine ai ?_
     refine aj ?_ ?_<;>intro h2'
     ·simp only[Qab,Qaa] at h2 h2'
      have ht:(r.team==[]||aX r.team)=true:=by rw[h2'];simp
      repeat refine ai ?_
      refine aj ?_ ?_<;>intro h3
      ·repeat refine ai ?_
       refine oc (gV _) ?_;repeat refine ai ?_
       refine aj ?_ ?_<;>intro h4
       ·refine bd ?_
        simp only[Qab,Qaa] at h4;simp only[bn,h4,bl]
       ·simp only[Qab,Qaa] at h4
        have hp:decide ((r.prefix_.length:Int)>16)=false:=h3;have ha:=h4;have e:bn r=nu none r.verbs:=by simp only[bn,hv,hk,ht,hp,ha,bl]
        rw[e];repeat refine ai ?_
        refine d8 (r.verbs) (fun i=>nu none r.verbs=nu (eP r.verbs i) (r.verbs.drop i)) (fun i=>[(1,.ptr 0 0),(44,.d (lI r.verbs)),(45,.d (.int .i64 (r.verbs.map eN).length)),(46,.d (.int .i64 i))]) (fun i=>⟨[(0,.cells 171 (r.e.map .d))],1,0⟩) (rfl) ?_;intro i hi hr;repeat refine ai ?_
        refine aj ?_ ?_<;>intro g1
        ·have hlt:i<r.verbs.length:=U g1
         rw[gO hlt] at hr;repeat refine ai ?_
         refine O (e:=eN) (xs:=r.verbs) (hlt) rfl ?_;repeat refine ai ?_
         refine aj ?_ ?_<;>intro g2
         ·repeat refine ai ?_
          refine aj ?_ ?_<;>intro g3
          ·have hin:=yz g2 g3
           repeat refine ai ?_
           refine aj ?_ ?_<;>intro g4
           ·have h0':=ng g4
            repeat refine ai ?_
            refine aH (e:=eN) (xs:=r.verbs) ((show i - 1<r.verbs.length by omega)) (bc h0' hlt hs) rfl ?_;repeat refine ai ?_
            refine aj ?_ ?_<;>intro g5
            ·refine bd ?_
             rw[hr,bA hlt h0',show decide (r.verbs[i - 1]'(by omega)≥r.verbs[i])=true from g5,hin];rfl
            ·repeat refine ai ?_
             exact bJ hlt hs (by rw[hr,bA hlt h0',show decide (r.verbs[i - 1]'(by omega)≥r.verbs[i])=false from g5,hin];rfl)
           ·have hz:=rm g4
            repeat refine ai ?_
            exact bJ hlt hs (by rw[hr,show kG (eP r.verbs i) r.verbs[i]=true from by subst hz;rfl,hin];rfl)
          ·refine bd ?_
           rw[hr,yA g3];rfl
         ·refine bd ?_
          rw[hr,yy g2];rfl
        ·refine bd ?_
         rw[hr,iV (V g1)]
      ·refine bd ?_
       simp only[bn,show decide ((r.prefix_.length:Int)>16)=true from h3,bl]
     ·refine bd ?_
      simp only[Qab,Qaa] at h2 h2';simp only[bn,h2,h2',bl]
    ·simp only[Qab,Qaa] at h2
     have ht:(r.team==[]||aX r.team)=true:=by rw[h2];rfl
     repeat refine ai ?_
     refine aj ?_ ?_<;>intro h3
     ·repeat refine ai ?_
      refine oc (gV _) ?_;repeat refine ai ?_
      refine aj ?_ ?_<;>intro h4
      ·refine bd ?_
       simp only[Qab,Qaa] at h4;simp only[bn,h4,bl]
      ·simp only[Qab,Qaa] at h4
       have hp:decide ((r.prefix_.length:Int)>16)=false:=h3;have ha:=h4;have e:bn r=nu none r.verbs:=by simp only[bn,hv,hk,ht,hp,ha,bl]
       rw[e];repeat refine ai ?_
       refine d8 (r.verbs) (fun i=>nu none r.verbs=nu (eP r.verbs i) (r.verbs.drop i)) (fun i=>[(1,.ptr 0 0),(44,.d (lI r.verbs)),(45,.d (.int .i64 (r.verbs.map eN).length)),(46,.d (.int .i64 i))]) (fun i=>⟨[(0,.cells 171 (r.e.map .d))],1,0⟩) (rfl) ?_;intro i hi hr;repeat refine ai ?_
       refine aj ?_ ?_<;>intro g1
       ·have hlt:i<r.verbs.length:=U g1
        rw[gO hlt] at hr;repeat refine ai ?_
        refine O (e:=eN) (xs:=r.verbs) (hlt) rfl ?_;repeat refine ai ?_
        refine aj ?_ ?_<;>intro g2
        ·repeat refine ai ?_
         refine aj ?_ ?_<;>intro g3
         ·have hin:=yz g2 g3
          repeat refine ai ?_
          refine aj ?_ ?_<;>intro g4
          ·have h0':=ng g4
           repeat refine ai ?_
           refine aH (e:=eN) (xs:=r.verbs) ((show i - 1<r.verbs.length by omega)) (bc h0' hlt hs) rfl ?_;repeat refine ai ?_
           refine aj ?_ ?_<;>intro g5
           ·refine bd ?_
            rw[hr,bA hlt h0',show decide (r.verbs[i - 1]'(by omega)≥r.verbs[i])=true from g5,hin];rfl
           ·repeat refine ai ?_
            exact bJ hlt hs (by rw[hr,bA hlt h0',show decide (r.verbs[i - 1]'(by omega)≥r.verbs[i])=false from g5,hin];rfl)
          ·have hz:=rm g4
           repeat refine ai ?_
           exact bJ hlt hs (by rw[hr,show kG (eP r.verbs i) r.verbs[i]=true from by subst hz;rfl,hin];rfl)
         ·refine bd ?_
          rw[hr,yA g3];rfl
        ·refine bd ?_
         rw[hr,yy g2];rfl
       ·refine bd ?_
        rw[hr,iV (V g1)]
     ·refine bd ?_
      simp only[bn,show decide ((r.prefix_.length:Int)>16)=true from h3,bl]
   ·refine bd ?_
    simp only[Qab,Qaa] at h1 h1';simp only[bn,h1,h1',bl]
  ·simp only[Qab,Qaa] at h1
   have hk:(r.kind==[]||aX r.kind)=true:=by rw[h1];rfl
   repeat refine ai ?_
   refine aj ?_ ?_<;>intro h2
   ·repeat refine ai ?_
    refine oc (dD _) ?_;repeat refine ai ?_
    refine aj ?_ ?_<;>intro h2'
    ·simp only[Qab,Qaa] at h2 h2'
     have ht:(r.team==[]||aX r.team)=true:=by rw[h2'];simp
     repeat refine ai ?_
     refine aj ?_ ?_<;>intro h3
     ·repeat refine ai ?_
      refine oc (gV _) ?_;repeat refine ai ?_
      refine aj ?_ ?_<;>intro h4
      ·refine bd ?_
       simp only[Qab,Qaa] at h4;simp only[bn,h4,bl]
      ·simp only[Qab,Qaa] at h4
       have hp:decide ((r.prefix_.length:Int)>16)=false:=h3;have ha:=h4;have e:bn r=nu none r.verbs:=by simp only[bn,hv,hk,ht,hp,ha,bl]
       rw[e];repeat refine ai ?_
       refine d8 (r.verbs) (fun i=>nu none r.verbs=nu (eP r.verbs i) (r.verbs.drop i)) (fun i=>[(1,.ptr 0 0),(44,.d (lI r.verbs)),(45,.d (.int .i64 (r.verbs.map eN).length)),(46,.d (.int .i64 i))]) (fun i=>⟨[(0,.cells 171 (r.e.map .d))],1,0⟩) (rfl) ?_;intro i hi hr;repeat refine ai ?_
       refine aj ?_ ?_<;>intro g1
       ·have hlt:i<r.verbs.length:=U g1
        rw[gO hlt] at hr;repeat refine ai ?_
        refine O (e:=eN) (xs:=r.verbs) (hlt) rfl ?_;repeat refine ai ?_
        refine aj ?_ ?_<;>intro g2
        ·repeat refine ai ?_
         refine aj ?_ ?_<;>intro g3
         ·have hin:=yz g2 g3
          repeat refine ai ?_
          refine aj ?_ ?_<;>intro g4
          ·have h0':=ng g4
           repeat refine ai ?_
           refine aH (e:=eN) (xs:=r.verbs) ((show i - 1<r.verbs.length by omega)) (bc h0' hlt hs) rfl ?_;repeat refine ai ?_
           refine aj ?_ ?_<;>intro g5
           ·refine bd ?_
            rw[hr,bA hlt h0',show decide (r.verbs[i - 1]'(by omega)≥r.verbs[i])=true from g5,hin];rfl
           ·repeat refine ai ?_
            exact bJ hlt hs (by rw[hr,bA hlt h0',show decide (r.verbs[i - 1]'(by omega)≥r.verbs[i])=false from g5,hin];rfl)
          ·have hz:=rm g4
           repeat refine ai ?_
           exact bJ hlt hs (by rw[hr,show kG (eP r.verbs i) r.verbs[i]=true from by subst hz;rfl,hin];rfl)
         ·refine bd ?_
          rw[hr,yA g3];rfl
        ·refine bd ?_
         rw[hr,yy g2];rfl
       ·refine bd ?_
        rw[hr,iV (V g1)]
     ·refine bd ?_
      simp only[bn,show decide ((r.prefix_.length:Int)>16)=true from h3,bl]
    ·refine bd ?_
     simp only[Qab,Qaa] at h2 h2';simp only[bn,h2,h2',bl]
   ·simp only[Qab,Qaa] at h2
    have ht:(r.team==[]||aX r.team)=true:=by rw[h2];rfl
    repeat refine ai ?_
    refine aj ?_ ?_<;>intro h3
    ·repeat refine ai ?_
     refine oc (gV _) ?_;repeat refine ai ?_
     refine aj ?_ ?_<;>intro h4
     ·refine bd ?_
      simp only[Qab,Qaa] at h4;simp only[bn,h4,bl]
     ·simp only[Qab,Qaa] at h4
      have hp:decide ((r.prefix_.length:Int)>16)=false:=h3;have ha:=h4;have e:bn r=nu none r.verbs:=by simp only[bn,hv,hk,ht,hp,ha,bl]
      rw[e];repeat refine ai ?_
      refine d8 (r.verbs) (fun i=>nu none r.verbs=nu (eP r.verbs i) (r.verbs.drop i)) (fun i=>[(1,.ptr 0 0),(44,.d (lI r.verbs)),(45,.d (.int .i64 (r.verbs.map eN).length)),(46,.d (.int .i64 i))]) (fun i=>⟨[(0,.cells 171 (r.e.map .d))],1,0⟩) (rfl) ?_;intro i hi hr;repeat refine ai ?_
      refine aj ?_ ?_<;>intro g1
      ·have hlt:i<r.verbs.length:=U g1
       rw[gO hlt] at hr;repeat refine ai ?_
       refine O (e:=eN) (xs:=r.verbs) (hlt) rfl ?_;repeat refine ai ?_
       refine aj ?_ ?_<;>intro g2
       ·repeat refine ai ?_
        refine aj ?_ ?_<;>intro g3
        ·have hin:=yz g2 g3
         repeat refine ai ?_
         refine aj ?_ ?_<;>intro g4
         ·have h0':=ng g4
          repeat refine ai ?_
          refine aH (e:=eN) (xs:=r.verbs) ((show i - 1<r.verbs.length by omega)) (bc h0' hlt hs) rfl ?_;repeat refine ai ?_
          refine aj ?_ ?_<;>intro g5
          ·refine bd ?_
           rw[hr,bA hlt h0',show decide (r.verbs[i - 1]'(by omega)≥r.verbs[i])=true from g5,hin];rfl
          ·repeat refine ai ?_
           exact bJ hlt hs (by rw[hr,bA hlt h0',show decide (r.verbs[i - 1]'(by omega)≥r.verbs[i])=false from g5,hin];rfl)
         ·have hz:=rm g4
          repeat refine ai ?_
          exact bJ hlt hs (by rw[hr,show kG (eP r.verbs i) r.verbs[i]=true from by subst hz;rfl,hin];rfl)
        ·refine bd ?_
         rw[hr,yA g3];rfl
       ·refine bd ?_
        rw[hr,yy g2];rfl
      ·refine bd ?_
       rw[hr,iV (V g1)]
    ·refine bd ?_
     simp only[bn,show decide ((r.prefix_.length:Int)>16)=true from h3,bl]
 ·refine bd ?_
  rw[Qac] at h0;simp only[bn,h0,bl]
end Go.Vc
end
section
namespace Go.Vc
open Go.Proofs
set_option maxRecDepth 100000
theorem BP (r:GateRule):Spec P 176 [st r.e] (.d (.bool (bn r))):=by
 refine Spec.of_vc aO aA [.tmp 2] Tryz.func176 rfl rfl rfl rfl (fun hok=>?_)
 have hs:r.verbs.length≤big:=by
  have:=hok.1;simp only[st,AV.ok,GateRule.e,List.map,dQ] at this;exact az this.1.1
 have hsp:r.prefix_.length≤big:=by
  have:=hok.1;simp only[st,AV.ok,GateRule.e,List.map,dQ] at this;exact this.2.2.2.1
 repeat refine ai ?_
 refine aj ?_ ?_<;>intro h0
 ·rw[Qac] at h0
  have hv:=h0;repeat refine ai ?_
  refine aj ?_ ?_<;>intro h3
  ·have hp:decide ((r.prefix_.length:Int)>16)=false:=h3
   repeat refine ai ?_
   refine aj ?_ ?_<;>intro h1
   ·simp only[Qab,Qaa] at h1
    repeat refine ai ?_
    refine oc (bT _) ?_;repeat refine ai ?_
    refine aj ?_ ?_<;>intro h1'
    ·simp only[Qab,Qaa] at h1'
     have hk:(r.kind==[]||aX r.kind)=true:=by rw[h1'];simp
     repeat refine ai ?_
     refine aj ?_ ?_<;>intro h2
     ·simp only[Qab,Qaa] at h2
      repeat refine ai ?_
      refine oc (bT _) ?_;repeat refine ai ?_
      refine aj ?_ ?_<;>intro h2'
      ·simp only[Qab,Qaa] at h2'
       refine bd ?_;simp only[bn,h2,h2',bl]
      ·simp only[Qab,Qaa] at h2'
       have ht:(r.team==[]||aX r.team)=true:=by rw[h2'];simp
       have e:bn r=(r.prefix_.all co&&nu none r.verbs):=by simp only[bn,hv,hk,ht,hp,bl]
       rw[e];repeat refine ai ?_
       refine d8 (r.verbs) (fun i=>nu none r.verbs=nu (eP r.verbs i) (r.verbs.drop i)) (fun i=>[(1,.ptr 0 0),(3,.d (.int .i64 i))]) (fun i=>⟨[(0,.cells 171 (r.e.map .d))],1,0⟩) (rfl) ?_;intro i hi hr;repeat refine ai ?_
       refine aj ?_ ?_<;>intro g1
       ·have hlt:i<r.verbs.length:=U g1
        rw[gO hlt] at hr;repeat refine ai ?_
        refine ak ?_;repeat refine ai ?_
        refine O (e:=eN) (xs:=r.verbs) (hlt) rfl ?_;repeat refine ai ?_
        refine oc (eU _ _ _) ?_;repeat refine ai ?_
        refine aj ?_ ?_<;>intro g2
        ·simp only[Qab,Qaa] at g2
         repeat refine ai ?_
         refine aj ?_ ?_<;>intro g3
         ·have h0':=ng g3
          repeat refine ai ?_
          refine aH (e:=eN) (xs:=r.verbs) ((show i - 1<r.verbs.length by omega)) (bc h0' hlt hs) rfl ?_;repeat refine ai ?_
          refine O (e:=eN) (xs:=r.verbs) (hlt) rfl ?_;repeat refine ai ?_
          refine aj ?_ ?_<;>intro g4
          ·refine bd ?_
           rw[hr,bA hlt h0',show decide (r.verbs[i - 1]'(by omega)≥r.verbs[i])=true from g4,g2];simp
          ·repeat refine ai ?_
           exact bJ hlt hs (by rw[hr,bA hlt h0',show decide (r.verbs[i - 1]'(by omega)≥r.verbs[i])=false from g4,g2];rfl)
         ·repeat refine ai ?_
          refine an ?_;have hz:=rm g3;repeat refine ai ?_
          exact bJ hlt hs (by rw[hr,show kG (eP r.verbs i) r.verbs[i]=true from by subst hz;rfl,g2];rfl)
        ·simp only[Qab,Qaa] at g2
         repeat refine ai ?_
         refine ay ?_;refine bd ?_;rw[hr,g2];simp
       ·rw[iV (V g1)] at hr
        rw[hr,QaD];repeat refine ai ?_
        refine d8 (r.prefix_) (fun i=>r.prefix_.all co=(r.prefix_.drop i).all co) (fun i=>[(1,.ptr 0 0),(4,.d (.int .i64 i))]) (fun i=>⟨[(0,.cells 171 (r.e.map .d))],1,0⟩) (rfl) ?_;intro i hi hr;repeat refine ai ?_
        refine aj ?_ ?_<;>intro g5
        ·have hlt:i<r.prefix_.length:=hM g5
         rw[aM hlt] at hr;repeat refine ai ?_
         refine dl (hlt) ?_;repeat refine ai ?_
         refine oc (k7 _) ?_;repeat refine ai ?_
         refine aj ?_ ?_<;>intro g6
         ·simp only[Qab,Qaa] at g6
          refine bd ?_;rw[hr,g6];rfl
         ·simp only[Qab,Qaa] at g6
          repeat refine ai ?_
          exact bJ hlt hsp (by rw[hr,g6];rfl)
        ·refine bd ?_
         rw[hr,cJ (fV g5)]
     ·simp only[Qab,Qaa] at h2
      have ht:(r.team==[]||aX r.team)=true:=by rw[h2];rfl
      have e:bn r=(r.prefix_.all co&&nu none r.verbs):=by simp only[bn,hv,hk,ht,hp,bl]
      rw[e];repeat refine ai ?_
      refine d8 (r.verbs) (fun i=>nu none r.verbs=nu (eP r.verbs i) (r.verbs.drop i)) (fun i=>[(1,.ptr 0 0),(3,.d (.int .i64 i))]) (fun i=>⟨[(0,.cells 171 (r.e.map .d))],1,0⟩) (rfl) ?_;intro i hi hr;repeat refine ai ?_
      refine aj ?_ ?_<;>intro g1
      ·have hlt:i<r.verbs.length:=U g1
       rw[gO hlt] at hr;repeat refine ai ?_
       refine ak ?_;repeat refine ai ?_
       refine O (e:=eN) (xs:=r.verbs) (hlt) rfl ?_;repeat refine ai ?_
       refine oc (eU _ _ _) ?_;repeat refine ai ?_
       refine aj ?_ ?_<;>intro g2
       ·simp only[Qab,Qaa] at g2
        repeat refine ai ?_
        refine aj ?_ ?_<;>intro g3
        ·have h0':=ng g3
         repeat refine ai ?_
         refine aH (e:=eN) (xs:=r.verbs) ((show i - 1<r.verbs.length by omega)) (bc h0' hlt hs) rfl ?_;repeat refine ai ?_
         refine O (e:=eN) (xs:=r.verbs) (hlt) rfl ?_;repeat refine ai ?_
         refine aj ?_ ?_<;>intro g4
         ·refine bd ?_
          rw[hr,bA hlt h0',show decide (r.verbs[i - 1]'(by omega)≥r.verbs[i])=true from g4,g2];simp
         ·repeat refine ai ?_
          exact bJ hlt hs (by rw[hr,bA hlt h0',show decide (r.verbs[i - 1]'(by omega)≥r.verbs[i])=false from g4,g2];rfl)
        ·repeat refine ai ?_
         refine an ?_;have hz:=rm g3;repeat refine ai ?_
         exact bJ hlt hs (by rw[hr,show kG (eP r.verbs i) r.verbs[i]=true from by subst hz;rfl,g2];rfl)
       ·simp only[Qab,Qaa] at g2
        repeat refine ai ?_
        refine ay ?_;refine bd ?_;rw[hr,g2];simp
      ·rw[iV (V g1)] at hr
       rw[hr,QaD];repeat refine ai ?_
       refine d8 (r.prefix_) (fun i=>r.prefix_.all co=(r.prefix_.drop i).all co) (fun i=>[(1,.ptr 0 0),(4,.d (.int .i64 i))]) (fun i=>⟨[(0,.cells 171 (r.e.map .d))],1,0⟩) (rfl) ?_;intro i hi hr;repeat refine ai ?_
       refine aj ?_ ?_<;>intro g5
       ·have hlt:i<r.prefix_.length:=hM g5
        rw[aM hlt] at hr;repeat refine ai ?_
        refine dl (hlt) ?_;repeat refine ai ?_
        refine oc (k7 _) ?_;repeat refine ai ?_
        refine aj ?_ ?_<;>intro g6
        ·simp only[Qab,Qaa] at g6
         refine bd ?_;rw[hr,g6];rfl
        ·simp only[Qab,Qaa] at g6
         repeat refine ai ?_
         exact bJ hlt hsp (by rw[hr,g6];rfl)
       ·refine bd ?_
        rw[hr,cJ (fV g5)]
    ·simp only[Qab,Qaa] at h1'
     refine bd ?_;simp only[bn,h1,h1',bl]
   ·simp only[Qab,Qaa] at h1
    have hk:(r.kind==[]||aX r.kind)=true:=by rw[h1];rfl
    repeat refine ai ?_
    refine aj ?_ ?_<;>intro h2
    ·simp only[Qab,Qaa] at h2
     repeat refine ai ?_
     refine oc (bT _) ?_;repeat refine ai ?_
     refine aj ?_ ?_<;>intro h2'
     ·simp only[Qab,Qaa] at h2'
      refine bd ?_;simp only[bn,h2,h2',bl]
     ·simp only[Qab,Qaa] at h2'
      have ht:(r.team==[]||aX r.team)=true:=by rw[h2'];simp
      have e:bn r=(r.prefix_.all co&&nu none r.verbs):=by simp only[bn,hv,hk,ht,hp,bl]
      rw[e];repeat refine ai ?_
      refine d8 (r.verbs) (fun i=>nu none r.verbs=nu (eP r.verbs i) (r.verbs.drop i)) (fun i=>[(1,.ptr 0 0),(3,.d (.int .i64 i))]) (fun i=>⟨[(0,.cells 171 (r.e.map .d))],1,0⟩) (rfl) ?_;intro i hi hr;repeat refine ai ?_
      refine aj ?_ ?_<;>intro g1
      ·have hlt:i<r.verbs.length:=U g1
       rw[gO hlt] at hr;repeat refine ai ?_
       refine ak ?_;repeat refine ai ?_
       refine O (e:=eN) (xs:=r.verbs) (hlt) rfl ?_;repeat refine ai ?_
       refine oc (eU _ _ _) ?_;repeat refine ai ?_
       refine aj ?_ ?_<;>intro g2
       ·simp only[Qab,Qaa] at g2
        repeat refine ai ?_
        refine aj ?_ ?_<;>intro g3
        ·have h0':=ng g3
         repeat refine ai ?_
         refine aH (e:=eN) (xs:=r.verbs) ((show i - 1<r.verbs.length by omega)) (bc h0' hlt hs) rfl ?_;repeat refine ai ?_
         refine O (e:=eN) (xs:=r.verbs) (hlt) rfl ?_;repeat refine ai ?_
         refine aj ?_ ?_<;>intro g4
         ·refine bd ?_
          rw[hr,bA hlt h0',show decide (r.verbs[i - 1]'(by omega)≥r.verbs[i])=true from g4,g2];simp
         ·repeat refine ai ?_
          exact bJ hlt hs (by rw[hr,bA hlt h0',show decide (r.verbs[i - 1]'(by omega)≥r.verbs[i])=false from g4,g2];rfl)
        ·repeat refine ai ?_
         refine an ?_;have hz:=rm g3;repeat refine ai ?_
         exact bJ hlt hs (by rw[hr,show kG (eP r.verbs i) r.verbs[i]=true from by subst hz;rfl,g2];rfl)
       ·simp only[Qab,Qaa] at g2
        repeat refine ai ?_
        refine ay ?_;refine bd ?_;rw[hr,g2];simp
      ·rw[iV (V g1)] at hr
       rw[hr,QaD];repeat refine ai ?_
       refine d8 (r.prefix_) (fun i=>r.prefix_.all co=(r.prefix_.drop i).all co) (fun i=>[(1,.ptr 0 0),(4,.d (.int .i64 i))]) (fun i=>⟨[(0,.cells 171 (r.e.map .d))],1,0⟩) (rfl) ?_;intro i hi hr;repeat refine ai ?_
       refine aj ?_ ?_<;>intro g5
       ·have hlt:i<r.prefix_.length:=hM g5
        rw[aM hlt] at hr;repeat refine ai ?_
        refine dl (hlt) ?_;repeat refine ai ?_
        refine oc (k7 _) ?_;repeat refine ai ?_
        refine aj ?_ ?_<;>intro g6
        ·simp only[Qab,Qaa] at g6
         refine bd ?_;rw[hr,g6];rfl
        ·simp only[Qab,Qaa] at g6
         repeat refine ai ?_
         exact bJ hlt hsp (by rw[hr,g6];rfl)
       ·refine bd ?_
        rw[hr,cJ (fV g5)]
    ·simp only[Qab,Qaa] at h2
     have ht:(r.team==[]||aX r.team)=true:=by rw[h2];rfl
     have e:bn r=(r.prefix_.all co&&nu none r.verbs):=by simp only[bn,hv,hk,ht,hp,bl]
     rw[e];repeat refine ai ?_
     refine d8 (r.verbs) (fun i=>nu none r.verbs=nu (eP r.verbs i) (r.verbs.drop i)) (fun i=>[(1,.ptr 0 0),(3,.d (.int .i64 i))]) (fun i=>⟨[(0,.cells 171 (r.e.map .d))],1,0⟩) (rfl) ?_;intro i hi hr;repeat refine ai ?_
     refine aj ?_ ?_<;>intro g1
     ·have hlt:i<r.verbs.length:=U g1
      rw[gO hlt] at hr;repeat refine ai ?_
      refine ak ?_;repeat refine ai ?_
      refine O (e:=eN) (xs:=r.verbs) (hlt) rfl ?_;repeat refine ai ?_
      refine oc (eU _ _ _) ?_;repeat refine ai ?_
      refine aj ?_ ?_<;>intro g2
      ·simp only[Qab,Qaa] at g2
       repeat refine ai ?_
       refine aj ?_ ?_<;>intro g3
       ·have h0':=ng g3
        repeat refine ai ?_
        refine aH (e:=eN) (xs:=r.verbs) ((show i - 1<r.verbs.length by omega)) (bc h0' hlt hs) rfl ?_;repeat refine ai ?_
        refine O (e:=eN) (xs:=r.verbs) (hlt) rfl ?_;repeat refine ai ?_
        refine aj ?_ ?_<;>intro g4
        ·refine bd ?_
         rw[hr,bA hlt h0',show decide (r.verbs[i - 1]'(by omega)≥r.verbs[i])=true from g4,g2];simp
        ·repeat refine ai ?_
         exact bJ hlt hs (by rw[hr,bA hlt h0',show decide (r.verbs[i - 1]'(by omega)≥r.verbs[i])=false from g4,g2];rfl)
       ·repeat refine ai ?_
        refine an ?_;have hz:=rm g3;repeat refine ai ?_
        exact bJ hlt hs (by rw[hr,show kG (eP r.verbs i) r.verbs[i]=true from by subst hz;rfl,g2];rfl)
      ·simp only[Qab,Qaa] at g2
       repeat refine ai ?_
       refine ay ?_;refine bd ?_;rw[hr,g2];simp
     ·rw[iV (V g1)] at hr
      rw[hr,QaD];repeat refine ai ?_
      refine d8 (r.prefix_) (fun i=>r.prefix_.all co=(r.prefix_.drop i).all co) (fun i=>[(1,.ptr 0 0),(4,.d (.int .i64 i))]) (fun i=>⟨[(0,.cells 171 (r.e.map .d))],1,0⟩) (rfl) ?_;intro i hi hr;repeat refine ai ?_
      refine aj ?_ ?_<;>intro g5
      ·have hlt:i<r.prefix_.length:=hM g5
       rw[aM hlt] at hr;repeat refine ai ?_
       refine dl (hlt) ?_;repeat refine ai ?_
       refine oc (k7 _) ?_;repeat refine ai ?_
       refine aj ?_ ?_<;>intro g6
       ·simp only[Qab,Qaa] at g6
        refine bd ?_;rw[hr,g6];rfl
       ·simp only[Qab,Qaa] at g6
        repeat refine ai ?_
        exact bJ hlt hsp (by rw[hr,g6];rfl)
      ·refine bd ?_
       rw[hr,cJ (fV g5)]
  ·refine bd ?_
   simp only[bn,show decide ((r.prefix_.length:Int)>16)=true from h3,bl]
 ·refine bd ?_
  rw[Qac] at h0;simp only[bn,h0,bl]
end Go.Vc
end
section
namespace Go.Vc
open Go.Proofs
set_option maxRecDepth 100000
theorem bC {b:GateBook} (h:dQ [st b.e]):b.objects.length≤big∧b.grants.length≤big∧b.ledgers.length≤big∧b.purses.length≤big:=by
 have:=h.1;simp only[st,AV.ok,GateBook.e,List.map,dQ] at this;exact ⟨az this.2.2.2.1.1,az this.2.2.2.2.1.1,az this.2.2.2.2.2.1.1,az this.2.2.2.2.2.2.1.1⟩
theorem ji {o:GateObject} (h:dQ [st o.e]):o.values.length≤big∧o.holds.length≤big:=by
 have:=h.1;simp only[st,AV.ok,GateObject.e,List.map,dQ] at this;exact ⟨az this.2.2.2.1.1,az this.2.2.2.2.2.1.1⟩
theorem d6 {a:AV} {l:List AV} (h:dQ (a::l)):dQ [a]:=⟨h.1,trivial⟩
theorem BO (b:GateBook) (k s:Bs):Spec P 175 [st b.e,.d (.str k),.d (.str s)] (.d (.int .i64 (dC (fun x=>x.kind==k&&x.name==s) b.objects))):=by
 refine Spec.of_vc aO aA [.tmp 6] Tryz.func175 rfl rfl rfl rfl (fun hok=>?_);have hs:b.objects.length≤big:=(bC (d6 hok)).1;repeat refine ai ?_
 refine d8 (b.objects) (fun i=>dC (fun x=>x.kind==k&&x.name==s) b.objects=eR (fun x=>x.kind==k&&x.name==s) (b.objects.drop i) i) (fun i=>[(1,.d (.str k)),(2,.d (.str s)),(3,.ptr 0 0),(7,.d (.int .i64 i))]) (fun i=>⟨[(0,.cells 48 (b.e.map .d))],1,0⟩) (rfl) ?_;intro i hi hr;repeat refine ai ?_
 refine aj ?_ ?_<;>intro h1
 ·have hlt:i<b.objects.length:=U h1
  rw[dR hlt] at hr;repeat refine ai ?_
  refine O (e:=GateObject.e) (xs:=b.objects) (hlt) rfl ?_;repeat refine ai ?_
  refine aj ?_ ?_<;>intro h2
  ·repeat refine ai ?_
   refine O (e:=GateObject.e) (xs:=b.objects) (hlt) rfl ?_;repeat refine ai ?_
   refine aj ?_ ?_<;>intro h3
   ·refine nd ?_
    rw[hr,h2,h3];rfl
   ·repeat refine ai ?_
    exact bJ hlt hs (by rw[hr,h2,h3];rfl)
  ·repeat refine ai ?_
   exact bJ hlt hs (by rw[hr,h2];rfl)
 ·refine nd ?_
  rw[hr,eL (V h1)]
theorem BN (b:GateBook) (k s:Bs):Spec P 93 [st b.e,.d (.str k),.d (.str s)] (.d (.int .i64 (dC (fun x=>x.team==k&&x.resource==s) b.ledgers))):=by
 refine Spec.of_vc aO aA [.tmp 6] Tryz.func93 rfl rfl rfl rfl (fun hok=>?_);have hs:b.ledgers.length≤big:=(bC (d6 hok)).2.2.1;repeat refine ai ?_
 refine d8 (b.ledgers) (fun i=>dC (fun x=>x.team==k&&x.resource==s) b.ledgers=eR (fun x=>x.team==k&&x.resource==s) (b.ledgers.drop i) i) (fun i=>[(1,.d (.str k)),(2,.d (.str s)),(3,.ptr 0 0),(7,.d (.int .i64 i))]) (fun i=>⟨[(0,.cells 48 (b.e.map .d))],1,0⟩) (rfl) ?_;intro i hi hr;repeat refine ai ?_
 refine aj ?_ ?_<;>intro h1
 ·have hlt:i<b.ledgers.length:=U h1
  rw[dR hlt] at hr;repeat refine ai ?_
  refine O (e:=GateLedger.e) (xs:=b.ledgers) (hlt) rfl ?_;repeat refine ai ?_
  refine aj ?_ ?_<;>intro h2
  ·repeat refine ai ?_
   refine O (e:=GateLedger.e) (xs:=b.ledgers) (hlt) rfl ?_;repeat refine ai ?_
   refine aj ?_ ?_<;>intro h3
   ·refine nd ?_
    rw[hr,h2,h3];rfl
   ·repeat refine ai ?_
    exact bJ hlt hs (by rw[hr,h2,h3];rfl)
  ·repeat refine ai ?_
   exact bJ hlt hs (by rw[hr,h2];rfl)
 ·refine nd ?_
  rw[hr,eL (V h1)]
theorem Cs (b:GateBook) (k s:Bs):Spec P 186 [st b.e,.d (.str k),.d (.str s)] (.d (.int .i64 (dC (fun x=>x.kind==k&&x.name==s) b.objects))):=by
 refine Spec.of_vc aO aA [.tmp 6] Tryz.func186 rfl rfl rfl rfl (fun hok=>?_);have hs:b.objects.length≤big:=(bC (d6 hok)).1;repeat refine ai ?_
 refine d8 (b.objects) (fun i=>dC (fun x=>x.kind==k&&x.name==s) b.objects=eR (fun x=>x.kind==k&&x.name==s) (b.objects.drop i) i) (fun i=>[(1,.d (.str k)),(2,.d (.str s)),(3,.ptr 0 0),(10,.d (aC b.objects)),(11,.d (.int .i64 (b.objects.map GateObject.e).length)),(12,.d (.int .i64 i))]) (fun i=>⟨[(0,.cells 48 (b.e.map .d))],1,0⟩) (rfl) ?_;intro i hi hr;repeat refine ai ?_
 refine aj ?_ ?_<;>intro h1
 ·have hlt:i<b.objects.length:=U h1
  rw[dR hlt] at hr;repeat refine ai ?_
  refine O (e:=GateObject.e) (xs:=b.objects) (hlt) rfl ?_;repeat refine ai ?_
  refine aj ?_ ?_<;>intro h2
  ·repeat refine ai ?_
   refine aj ?_ ?_<;>intro h3
   ·refine nd ?_
    rw[hr,h2,h3];rfl
   ·repeat refine ai ?_
    exact bJ hlt hs (by rw[hr,h2,h3];rfl)
  ·repeat refine ai ?_
   exact bJ hlt hs (by rw[hr,h2];rfl)
 ·refine nd ?_
  rw[hr,eL (V h1)]
theorem GS (b:GateBook) (k s:Bs):Spec P 98 [st b.e,.d (.str k),.d (.str s)] (.d (.int .i64 (dC (fun x=>x.team==k&&x.resource==s) b.ledgers))):=by
 refine Spec.of_vc aO aA [.tmp 6] Tryz.func98 rfl rfl rfl rfl (fun hok=>?_);have hs:b.ledgers.length≤big:=(bC (d6 hok)).2.2.1;repeat refine ai ?_
 refine d8 (b.ledgers) (fun i=>dC (fun x=>x.team==k&&x.resource==s) b.ledgers=eR (fun x=>x.team==k&&x.resource==s) (b.ledgers.drop i) i) (fun i=>[(1,.d (.str k)),(2,.d (.str s)),(3,.ptr 0 0),(10,.d (aL b.ledgers)),(11,.d (.int .i64 (b.ledgers.map GateLedger.e).length)),(12,.d (.int .i64 i))]) (fun i=>⟨[(0,.cells 48 (b.e.map .d))],1,0⟩) (rfl) ?_;intro i hi hr;repeat refine ai ?_
 refine aj ?_ ?_<;>intro h1
 ·have hlt:i<b.ledgers.length:=U h1
  rw[dR hlt] at hr;repeat refine ai ?_
  refine O (e:=GateLedger.e) (xs:=b.ledgers) (hlt) rfl ?_;repeat refine ai ?_
  refine aj ?_ ?_<;>intro h2
  ·repeat refine ai ?_
   refine aj ?_ ?_<;>intro h3
   ·refine nd ?_
    rw[hr,h2,h3];rfl
   ·repeat refine ai ?_
    exact bJ hlt hs (by rw[hr,h2,h3];rfl)
  ·repeat refine ai ?_
   exact bJ hlt hs (by rw[hr,h2];rfl)
 ·refine nd ?_
  rw[hr,eL (V h1)]
def rp (a b:Bs):Int:=bif Op.bytesLess a b then -1 else bif !(Op.bytesLess a b||a==b) then 1 else 0
def FH (a b c d:Bs):Int:=bif !(rp a c==0) then rp a c else rp b d
def fE (a b c d:Bs):Bool:=Op.bytesLess a c||(a==c&&Op.bytesLess b d)
def oz (a b:GatePurse):Bool:=bif !(a.door==b.door) then Op.bytesLess a.door b.door else bif !(a.team==b.team) then Op.bytesLess a.team b.team else Op.bytesLess a.resource b.resource
def xZ (a b:GatePurse):Int:=bif !(a.door==b.door) then rp a.door b.door else FH a.team a.resource b.team b.resource
theorem yu (a b:Bs):decide (rp a b≥0)= !Op.bytesLess a b:=by
 unfold rp;cases h:Op.bytesLess a b<;>cases e:(a==b)<;>simp
theorem rD (a b c d:Bs):decide (FH a b c d≥0)= !fE a b c d:=by
 unfold FH fE
 cases e:(a==c) with
 |true=>
  have:a=c:=beq_iff_eq.1 e;subst this;have:rp a a=0:=by unfold rp;rw[kx];simp
  rw[this,kx]
  simp[yu]
 |false=>
  have h0:(rp a c==0)=false:=by
   unfold rp;rw[e];cases h:Op.bytesLess a c<;>simp
  rw[h0];simp[yu]
theorem EJ (a b:GatePurse):decide (xZ a b≥0)= !oz a b:=by
 unfold xZ oz
 cases e:(a.door==b.door) with
 |false=>simp[yu]
 |true=>
  simp only[Bool.not_true,cond_false,rD,fE]
  cases e2:(a.team==b.team) with
  |false=>simp
  |true=>rw[beq_iff_eq.1 e2,kx];simp
theorem C6 (a b:Bs):Spec P 157 [.d (.str a),.d (.str b)] (.d (.int .i64 (rp a b))):=by
 refine Spec.of_vc aO aA [.tmp 4] Tryz.func157 rfl rfl rfl rfl (fun hok=>?_)
 repeat' first
  |refine ai ?_
  |(refine aj ?_ ?_<;>intro h)
 all_goals (refine nd ?_;simp_all [rp,Qax])
theorem xQ (a b c d:Bs):Spec P 95 [.d (.str a),.d (.str b),.d (.str c),.d (.str d)] (.d (.int .i64 (FH a b c d))):=by
 refine Spec.of_vc aO aA [.tmp 8] Tryz.func95 rfl rfl rfl rfl (fun hok=>?_)
 repeat' first
  |refine ai ?_
  |(refine aj ?_ ?_<;>intro h)
  |refine oc (C6 _ _) ?_
 all_goals (refine nd ?_;simp_all [FH,Qax])
theorem xR (a b:GatePurse):Spec P 161 [st a.e,st b.e] (.d (.int .i64 (xZ a b))):=by
 refine Spec.of_vc aO aA [.tmp 4] Tryz.func161 rfl rfl rfl rfl (fun hok=>?_)
 repeat' first
  |refine ai ?_
  |(refine aj ?_ ?_<;>intro h)
  |refine oc (C6 _ _) ?_
  |refine oc (xQ _ _ _ _) ?_
 all_goals (refine nd ?_;simp_all [xZ,Qax])
theorem vw (a b:GatePurse):Spec P 162 [st a.e,st b.e] (.d (.bool (oz a b))):=by
 refine Spec.of_vc aO aA [.tmp 4] Tryz.func162 rfl rfl rfl rfl (fun hok=>?_)
 repeat' first
  |refine ai ?_
  |(refine aj ?_ ?_<;>intro h)
 all_goals (refine bd ?_;simp_all [oz,Qax])
def af (xs:List GateShape) (k:Bs) (n:Nat):List GateField×Bool:=match xs[(dC (·.kind==k) xs).toNat]? with
 |some s=>bif decide (dC (·.kind==k) xs≥0)&&s.fields.length==n then (s.fields,true) else ([],false)
 |none=>([],false)
section
variable {xs:List GateShape} {k:Bs} {n:Nat}
theorem eM (h:decide (dC (·.kind==k) xs<0)=true):af xs k n=([],false):=by
 have h':decide (dC (·.kind==k) xs≥0)=false:=decide_eq_false (by have:=of_decide_eq_true h;omega);unfold af;split<;>simp only[h',Qao,cond_false]
theorem cV {j:Nat} (hj:j<xs.length) (e:dC (·.kind==k) xs=(j:Int)):af xs k n=bif xs[j].fields.length==n then (xs[j].fields,true) else ([],false):=by
 unfold af;rw[e,Qav,Qaf hj];have:decide ((j:Int)≥0)=true:=decide_eq_true (by omega);simp only[this,Qan]
theorem dS:((af xs k n).2=false∧(af xs k n).1=[])∨∃j:Nat,∃h:j<xs.length,dC (·.kind==k) xs=(j:Int)∧af xs k n=(xs[j].fields,true)∧xs[j].fields.length=n∧xs[j].kind=k:=by
 cases h:decide (dC (·.kind==k) xs≥0) with
 |false=>rw[eM (by have:=of_decide_eq_false h;exact decide_eq_true (by omega))];exact .inl ⟨rfl,rfl⟩
 |true=>
  obtain ⟨j,hj,e,hp,_⟩:=cW h;rw[cV hj e]
  cases hl:xs[j].fields.length==n with
  |false=>exact .inl ⟨rfl,rfl⟩
  |true=>exact .inr ⟨j,hj,e,rfl,beq_iff_eq.1 hl,beq_iff_eq.1 hp⟩
theorem gJ (a b:Nat):((a:Int)==(b:Int))=(a==b):=by
 cases h:a==b with
 |true=>rw[beq_iff_eq.1 h];simp
 |false=>
  have:=beq_eq_false_iff_ne.1 h;exact beq_eq_false_iff_ne.2 (by omega)
end
def yg (o:GateObject) (v h:AV):AV:= .agg [.d (.str o.kind),.d (.str o.name),.d (.str o.team),v,.d (.bool o.ending),h,.d (.int .i64 o.version)]
theorem gy (xs:List GateShape) (o:GateObject):Spec P 166 [.d (ab xs),yg o (.d (lS o.values)) (.d (lS o.holds))] (.tup [.d (ad (af xs o.kind o.values.length).1),.d (.bool (af xs o.kind o.values.length).2)]):=by
 refine Spec.of_vc aO aA [.tmp 4,.tmp 5] Tryz.func166 rfl rfl rfl rfl (fun hok=>?_);repeat refine ai ?_
 refine oc (iB _ _) ?_;repeat refine ai ?_
 refine ak ?_;repeat refine ai ?_
 refine aj ?_ ?_<;>intro h
 ·obtain ⟨j,hj,e,_⟩:=cW (p:=fun s:GateShape=>s.kind==o.kind) (xs:=xs) (decide_eq_true (by have:=of_decide_eq_false h;omega))
  repeat refine ai ?_
  refine aH (e:=GateShape.e) (xs:=xs) (hj) (e) rfl ?_;repeat refine ai ?_
  refine aj ?_ ?_<;>intro h2
  ·rw[cV hj e]
   simp only[cond_false,bne,Qab,Qac,gJ] at h2;have h2:(xs[j].fields.length==o.values.length)=false:=by first|exact h2|(rw[←h2];exact BEq.comm)
   rw[h2];rfl
  ·repeat refine ai ?_
   refine aH (e:=GateShape.e) (xs:=xs) (hj) (e) rfl ?_;repeat refine ai ?_
   rw[cV hj e];simp only[cond_false,bne,Qaa,Qac,gJ] at h2;have h2:(xs[j].fields.length==o.values.length)=true:=by first|exact h2|(rw[←h2];exact BEq.comm)
   rw[h2];rfl
 ·repeat refine ai ?_
  refine ay ?_;rw[eM h];rfl
theorem qJ (xs:List GateShape) (o:GateObject) (g:Nat→Option Addr×Nat) (i:Nat):Spec P 166 [.d (ab xs),yg o (.val (.slice (g i).1 (o.values.map eB).length (g i).2)) (.d (lS o.holds))] (.tup [.d (ad (af xs o.kind o.values.length).1),.d (.bool (af xs o.kind o.values.length).2)]):=by
 refine Spec.of_vc aO aA [.tmp 4,.tmp 5] Tryz.func166 rfl rfl rfl rfl (fun hok=>?_);repeat refine ai ?_
 refine oc (iB _ _) ?_;repeat refine ai ?_
 refine ak ?_;repeat refine ai ?_
 refine aj ?_ ?_<;>intro h
 ·obtain ⟨j,hj,e,_⟩:=cW (p:=fun s:GateShape=>s.kind==o.kind) (xs:=xs) (decide_eq_true (by have:=of_decide_eq_false h;omega))
  repeat refine ai ?_
  refine aH (e:=GateShape.e) (xs:=xs) (hj) (e) rfl ?_;repeat refine ai ?_
  refine aj ?_ ?_<;>intro h2
  ·rw[cV hj e]
   simp only[cond_false,bne,Qab,Qac,gJ] at h2;have h2:(xs[j].fields.length==o.values.length)=false:=by first|exact h2|(rw[←h2];exact BEq.comm)
   rw[h2];rfl
  ·repeat refine ai ?_
   refine aH (e:=GateShape.e) (xs:=xs) (hj) (e) rfl ?_;repeat refine ai ?_
   rw[cV hj e];simp only[cond_false,bne,Qaa,Qac,gJ] at h2;have h2:(xs[j].fields.length==o.values.length)=true:=by first|exact h2|(rw[←h2];exact BEq.comm)
   rw[h2];rfl
 ·repeat refine ai ?_
  refine ay ?_;rw[eM h];rfl
theorem fp (xs:List GateShape) (o:GateObject):Spec P 140 [.d (ab xs),yg o (.d (lS o.values)) (.d (lS o.holds))] (.tup [.d (ad (af xs o.kind o.values.length).1),.d (.bool (af xs o.kind o.values.length).2)]):=by
 refine Spec.of_vc aO aA [.tmp 4,.tmp 5] Tryz.func140 rfl rfl rfl rfl (fun hok=>?_);repeat refine ai ?_
 refine oc (ix _ _) ?_;repeat refine ai ?_
 refine ak ?_;repeat refine ai ?_
 refine aj ?_ ?_<;>intro h
 ·obtain ⟨j,hj,e,_⟩:=cW (p:=fun s:GateShape=>s.kind==o.kind) (xs:=xs) (decide_eq_true (by have:=of_decide_eq_false h;omega))
  repeat refine ai ?_
  refine aH (e:=GateShape.e) (xs:=xs) (hj) (e) rfl ?_;repeat refine ai ?_
  refine aj ?_ ?_<;>intro h2
  ·rw[cV hj e]
   simp only[cond_false,bne,Qab,Qac,gJ] at h2;have h2:(xs[j].fields.length==o.values.length)=false:=by first|exact h2|(rw[←h2];exact BEq.comm)
   rw[h2];rfl
  ·repeat refine ai ?_
   refine aH (e:=GateShape.e) (xs:=xs) (hj) (e) rfl ?_;repeat refine ai ?_
   rw[cV hj e];simp only[cond_false,bne,Qaa,Qac,gJ] at h2;have h2:(xs[j].fields.length==o.values.length)=true:=by first|exact h2|(rw[←h2];exact BEq.comm)
   rw[h2];rfl
 ·repeat refine ai ?_
  refine ay ?_;rw[eM h];rfl
theorem AR (xs:List GateShape) (o:GateObject) (g:Nat→Option Addr×Nat) (i j:Nat):Spec P 166 [.d (ab xs),yg o (.val (.slice (g i).1 (o.values.map eB).length (g i).2)) (.val (.slice (g j).1 (o.holds.map eB).length (g j).2))] (.tup [.d (ad (af xs o.kind o.values.length).1),.d (.bool (af xs o.kind o.values.length).2)]):=by
 refine Spec.of_vc aO aA [.tmp 4,.tmp 5] Tryz.func166 rfl rfl rfl rfl (fun hok=>?_);repeat refine ai ?_
 refine oc (iB _ _) ?_;repeat refine ai ?_
 refine ak ?_;repeat refine ai ?_
 refine aj ?_ ?_<;>intro h
 ·obtain ⟨j,hj,e,_⟩:=cW (p:=fun s:GateShape=>s.kind==o.kind) (xs:=xs) (decide_eq_true (by have:=of_decide_eq_false h;omega))
  repeat refine ai ?_
  refine aH (e:=GateShape.e) (xs:=xs) (hj) (e) rfl ?_;repeat refine ai ?_
  refine aj ?_ ?_<;>intro h2
  ·rw[cV hj e]
   simp only[cond_false,bne,Qab,Qac,gJ] at h2;have h2:(xs[j].fields.length==o.values.length)=false:=by first|exact h2|(rw[←h2];exact BEq.comm)
   rw[h2];rfl
  ·repeat refine ai ?_
   refine aH (e:=GateShape.e) (xs:=xs) (hj) (e) rfl ?_;repeat refine ai ?_
   rw[cV hj e];simp only[cond_false,bne,Qaa,Qac,gJ] at h2;have h2:(xs[j].fields.length==o.values.length)=true:=by first|exact h2|(rw[←h2];exact BEq.comm)
   rw[h2];rfl
 ·repeat refine ai ?_
  refine ay ?_;rw[eM h];rfl
theorem zK (xs:List GateShape) (o:GateObject) (g:Nat→Option Addr×Nat) (i j:Nat):Spec P 140 [.d (ab xs),yg o (.val (.slice (g i).1 (o.values.map eB).length (g i).2)) (.val (.slice (g j).1 (o.holds.map eB).length (g j).2))] (.tup [.d (ad (af xs o.kind o.values.length).1),.d (.bool (af xs o.kind o.values.length).2)]):=by
 refine Spec.of_vc aO aA [.tmp 4,.tmp 5] Tryz.func140 rfl rfl rfl rfl (fun hok=>?_);repeat refine ai ?_
 refine oc (ix _ _) ?_;repeat refine ai ?_
 refine ak ?_;repeat refine ai ?_
 refine aj ?_ ?_<;>intro h
 ·obtain ⟨j,hj,e,_⟩:=cW (p:=fun s:GateShape=>s.kind==o.kind) (xs:=xs) (decide_eq_true (by have:=of_decide_eq_false h;omega))
  repeat refine ai ?_
  refine aH (e:=GateShape.e) (xs:=xs) (hj) (e) rfl ?_;repeat refine ai ?_
  refine aj ?_ ?_<;>intro h2
  ·rw[cV hj e]
   simp only[cond_false,bne,Qab,Qac,gJ] at h2;have h2:(xs[j].fields.length==o.values.length)=false:=by first|exact h2|(rw[←h2];exact BEq.comm)
   rw[h2];rfl
  ·repeat refine ai ?_
   refine aH (e:=GateShape.e) (xs:=xs) (hj) (e) rfl ?_;repeat refine ai ?_
   rw[cV hj e];simp only[cond_false,bne,Qaa,Qac,gJ] at h2;have h2:(xs[j].fields.length==o.values.length)=true:=by first|exact h2|(rw[←h2];exact BEq.comm)
   rw[h2];rfl
 ·repeat refine ai ?_
  refine ay ?_;rw[eM h];rfl
end Go.Vc
end
section
namespace Go.Vc
open Go.Proofs
set_option maxRecDepth 100000
theorem K3 (ν:Nat→Value) {i j:Nat} (v:Value) (h:j≠i):dw ν i v j=ν j:=by simp[dw,h]
theorem kB (w:World) (o:Obj) {x:Nat} (hx:x<w.heap.size):(w.alloc o).heap[x]? =w.heap[x]? :=by
 show (w.heap.push o)[x]? =w.heap[x]?;rw[Array.getElem?_push,if_neg (Nat.ne_of_lt hx)]
theorem LM:(⟨0,(.iface 297 (.agg #[.pointer (some ⟨1,252,none⟩)]))⟩:Nat×Value)∈LG:=by simp[LG]
theorem Lb (c p:Int):HSpec P 232 [.iface 264 (.at_ [.int .i64 c,.int .i64 p]),.iface 268 (.ptr 0 0)] ⟨[(0,.cells 264 [.val (.pointer none)])],1,0⟩ (.d (.bool true))
 ⟨[(0,.cells 264 [.at_ [.int .i64 c,.int .i64 p]])],1,0⟩:=by
 refine ⟨⟨_,Tryz.func232,rfl,rfl⟩,fun N0 w ν vs hp hargs=>?_⟩;obtain ⟨v1,r1,rfl,h1,h2⟩:=hargs.cons_inv;obtain ⟨v2,r2,rfl,h3,h4⟩:=h2.cons_inv;cases h4;obtain ⟨u1,rfl,g1⟩:=k8 h1;obtain ⟨u2,rfl,g2⟩:=k8 h3;obtain ⟨b,rfl,hν⟩:=pO g2;obtain ⟨B,arr,e,q1,q2,q3⟩:=hp.objs 0 _ rfl;rw[hν] at q1;obtain rfl:b=B:=by injection q1 with h1;injection h1 with h1;injection h1
 obtain ⟨w1,q4,q5,q6,q7⟩:=q3.cons_inv;cases q7;have hw1:=eu q6;subst hw1;have harr:arr= #[.pointer none]:=by apply Array.ext';exact q5
 subst harr
 cases g1 with
 |@at_ _ _ _ A cells k0 k1 k2 _=>
 have hb:b<w.heap.size:=hp.bnd 0 b (by rw[hν];exact .leaf rfl);have hlw:=hp.lw _ LM;have hcell:w.cell? ⟨b,0,none⟩=some (.pointer none):=by simp[World.cell?,q2]
 have hfr:w.frozen? ⟨b,0,none⟩=false:=by simp[World.frozen?,q2]
 refine (JD A ⟨b,0,none⟩ (.pointer none) w hlw.2 hcell hfr).mono ?_;rintro ev w' ⟨rfl,rfl⟩;generalize hW:(((w.alloc _).alloc _).alloc _).alloc _=W;have hWsz:W.heap.size=w.heap.size+4:=by subst hW;simp[size_alloc]
 have hWb:∀x,x<w.heap.size→W.heap[x]? =w.heap[x]? :=fun x hx=>by
  subst hW;rw[kB _ _ (by simp only[size_alloc];omega),kB _ _ (by simp only[size_alloc];omega),kB _ _ (by simp only[size_alloc];omega),kB _ _ hx]
 have hWo:W.os=w.os∧W.tape=w.tape∧W.output=w.output:=by subst hW;exact ⟨rfl,rfl,rfl⟩
 have hset:W.setCell ⟨b,0,none⟩ (.pointer (some A))=W.setRow b #[.pointer (some A)]:=by
  rw[setCell_eq_setRow W b 0 #[.pointer none] e (0,0) _ (by rw[hWb b hb];exact q2)];rfl
 rw[hset];have hk:Kp (fun x=>x=b) w (W.setRow b #[.pointer (some A)]):=⟨hWo.1,hWo.2.1,hWo.2.2,by simp[World.setRow,hWsz],fun x hx hne=>by rw[setRow_other W b x _ hne];exact hWb x hx⟩;have m:Mv w (nN N0 ν) (W.setRow b #[.pointer (some A)]) (nN N0 ν):=⟨hk.size,fun x hx hN=>⟨hN,hk.blk x hx (fun e=>hN (.inr ⟨0,by rw[hν,e];exact .leaf rfl⟩))⟩⟩;have hν0:∀i,i≠0→ν i=undef:=fun i hi=>hp.dom i (by show 1≤i;omega);refine ⟨_,ν,rfl,⟨?_,hp.inj,fun i x g=>QaT (hp.bnd i x g) hk.size,hp.dom,fun x g=>QaT (hp.n0 x g) hk.size,hp.dis,hp.lw.mv (fun x g hlt=>hk.blk x hlt (fun e=>hp.dis 0 b (by rw[hν];exact .leaf rfl) (e▸g)))⟩,.d (.bool true .nil) .nil,⟨hk.os,hk.tape,hk.output,hk.size,fun x hx hn=>hk.blk x hx (fun e=>hn ⟨0,by rw[hν,e];exact .leaf rfl⟩)⟩,fun _ _ _=>rfl,fun i x g=> .inl ⟨i,g⟩,rfl,Nat.le_refl _⟩;intro id o hl;simp only[look] at hl
 cases hz:Nat.beq id 0 with
 |true=>
  rw[hz] at hl;simp only[cond_true,Qau] at hl;subst hl;have:=QaP hz;subst this;refine ⟨b,_,e,hν,setRow_heap W b _ _ e _ (by rw[hWb b hb];exact q2),?_⟩
  exact .at_ A cells k0 (k1.mv m) (k2.mv m) .nil
 |false=>rw[hz] at hl;cases hl
theorem GJ (c p:Int):Spec P 215 [.iface 264 (.at_ [.int .i64 c,.int .i64 p])] (.tup [.d (.int .i64 c),.d (.int .i64 p)]):=by
 refine Spec.of_vc aO aA [.tmp 2,.tmp 3] Tryz.func215 rfl rfl rfl rfl (fun hok=>?_);repeat refine ai ?_
 refine oh (Lb c p) ?_;repeat refine ai ?_
 refine ay ?_;repeat refine ai ?_
 refine ak ?_;repeat refine ai ?_
 rfl
end Go.Vc
end
section
namespace Go.Vc
open Go.Proofs
set_option maxRecDepth 100000
def lG (xs:List GateShape) (o:GateObject):Bool:=(af xs o.kind o.values.length).2&&(aX o.name&&(aX o.team&&(!decide ((o.holds.length:Int)>3)&&(asc o.holds&&fJ o.version 0 1000000))))
def gb:List GateField→List Bs→Nat→Int×Int
 |f::fs,v::vs,i=>bif v==[] then (bif f.must then (2,(i:Int)) else gb fs vs (i+1)) else bif dI f v then gb fs vs (i+1) else (3,(i:Int))
 |_,_,_=>(0,0)
def DA (xs:List GateShape) (o:GateObject):Int×Int:=bif lG xs o then gb (af xs o.kind o.values.length).1 o.values 0 else (1,0)
def ku (xs:List GateShape) (o:GateObject):Int×Int:=bif aR xs then DA xs o else (1,0)
def Ge (p:Int×Int):AV:= .tup [.d (.int .i64 p.1),.d (.int .i64 p.2)]
theorem pd {a b:Int} {p:Int×Int} (h:p=(a,b)):AV.tup [.d (.int .i64 a),.d (.int .i64 b)]=Ge p:=by rw[h];rfl
theorem wR {fs:List GateField} {vs:List Bs} {i:Nat} (h:i<fs.length) (h2:i<vs.length):gb (fs.drop i) (vs.drop i) i=
 bif vs[i]==[] then (bif fs[i].must then (2,(i:Int)) else gb (fs.drop (i+1)) (vs.drop (i+1)) (i+1)) else bif dI fs[i] vs[i] then gb (fs.drop (i+1)) (vs.drop (i+1)) (i+1) else (3,(i:Int)):=by
 rw[Qad h,Qad h2];rfl
theorem Bi {fs:List GateField} {vs:List Bs} {i:Nat} (h:fs.length≤i):gb (fs.drop i) (vs.drop i) i=(0,0):=by
 rw[Qae h];rfl
theorem cj {xs:List GateShape} {k:Bs} {n:Nat}:(af xs k n).1.length≤n∧((af xs k n).2=true→(af xs k n).1.length=n):=by
 rcases dS (xs:=xs) (k:=k) (n:=n) with ⟨h1,h2⟩|⟨j,hj,_,h,hl,_⟩
 ·rw[h1,h2];exact ⟨Qaj _,fun h=>by cases h⟩
 ·rw[h];exact ⟨by simp only;omega,fun _=>hl⟩
theorem IV (o:GateObject):st o.e=yg o (.d (lS o.values)) (.d (lS o.holds)):=rfl
set_option maxHeartbeats 2000000 in
theorem Ex (xs:List GateShape) (o:GateObject):Spec P 172 [.d (ab xs),st o.e] (Ge (DA xs o)):=by
 refine Spec.of_vc aO aA [.tmp 4,.tmp 5] Tryz.func172 rfl rfl rfl rfl (fun hok=>?_);have hb:=ji (o:=o) ⟨hok.2.1,trivial⟩;repeat refine ai ?_
 refine oc (fp _ _) ?_;obtain ⟨hl,hl2⟩:=cj (xs:=xs) (k:=o.kind) (n:=o.values.length)
 repeat' first
  |refine ai ?_
  |(refine aj ?_ ?_<;>intro h)
  |refine oc (bT _) ?_
  |refine oc (jd _) ?_
  |refine oc (eU _ _ _) ?_
 all_goals first
  |(refine pd ?_;(try simp only[Qab,Qaa,Qac] at*);simp only[DA,lG, *,cond_true,cond_false,bl];done)
  |skip
 rename_i h1 h2 h3 h4 h5;simp only[Qaa,Qac] at h1 h2 h3 h4 h5 h;have hf:lG xs o=true:=by simp only[lG, *,bl]
 have e:DA xs o=gb (af xs o.kind o.values.length).1 o.values 0:=by rw[DA,hf];rfl
 rw[e];have hlen:=hl2 (by assumption);generalize (af xs o.kind o.values.length).1=fs at*;repeat refine ai ?_
 refine d8 (fs) (fun i=>gb fs o.values 0=gb (fs.drop i) (o.values.drop i) i) (fun i=>[(3,.ptr 0 0),(6,.d (ad fs)),(8,.d (.int .i64 i))]) (fun i=>⟨[(0,.cells 103 (o.e.map .d))],1,0⟩) (rfl) ?_;intro i hi hr;have hs:fs.length≤big:=by omega
 repeat refine ai ?_
 refine aj ?_ ?_<;>intro g1
 ·have hlt:i<fs.length:=U g1
  have hlt2:i<o.values.length:=by omega
  rw[wR hlt hlt2] at hr;repeat refine ai ?_
  refine O (e:=eB) (xs:=o.values) (hlt2) rfl ?_;repeat refine ai ?_
  refine aj ?_ ?_<;>intro g2
  ·repeat refine ai ?_
   refine O (e:=GateField.e) (xs:=fs) (hlt) rfl ?_;repeat refine ai ?_
   refine aj ?_ ?_<;>intro g3
   ·refine pd ?_
    rw[hr,g2,g3];rfl
   ·repeat refine ai ?_
    exact bJ hlt hs (by rw[hr,g2,g3];rfl)
  ·repeat refine ai ?_
   refine ak ?_;repeat refine ai ?_
   refine O (e:=GateField.e) (xs:=fs) (hlt) rfl ?_;repeat refine ai ?_
   refine O (e:=eB) (xs:=o.values) (hlt2) rfl ?_;repeat refine ai ?_
   refine oc (mZ _ _) ?_;repeat refine ai ?_
   refine aj ?_ ?_<;>intro g3
   ·simp only[Qab,Qaa] at g3
    refine pd ?_;rw[hr,g2,g3];rfl
   ·simp only[Qab,Qaa] at g3
    repeat refine ai ?_
    exact bJ hlt hs (by rw[hr,g2,g3];rfl)
 ·refine pd ?_
  rw[hr,Bi (V g1)]
end Go.Vc
end
section
namespace Go.Vc
open Go.Proofs
set_option maxRecDepth 100000
def CJ (p:Int×Int):AV:=bif p.1==0 then .val .nilIface else .iface 264 (.at_ [.int .i64 p.1,.int .i64 p.2])
theorem Lg {b:Bool} (h:b=false):AV.iface 264 (.at_ [.int .i64 1,.int .i64 0])=CJ (bif b then (0,0) else (1,0)):=by rw[h];rfl
theorem Lh {b:Bool} (h:b=true):AV.val .nilIface=CJ (bif b then (0,0) else (1,0)):=by rw[h];rfl
theorem Jz {p:Int×Int} {a b:Int} (h:p=(a,b)) (ha:(a==0)=false):AV.iface 264 (.at_ [.int .i64 a,.int .i64 b])=CJ p:=by rw[h,CJ,ha];rfl
theorem GG {x:Int}:fJ x 0 1000000=(!decide (x<0)&& !decide (x>1000000)):=by
 unfold fJ;by_cases h1:x<0<;>by_cases h2:x>1000000<;>simp[h1,h2]<;>omega
theorem AS (xs:List GateShape) (o:GateObject):Spec P 213 [.d (ab xs),st o.e] (CJ (bif lG xs o&&aR xs then (0,0) else (1,0))):=by
 refine Spec.of_vc aO aA [.tmp 4] Tryz.func213 rfl rfl rfl rfl (fun hok=>?_);repeat refine ai ?_
 refine oc (gy _ _) ?_
 repeat' first
  |refine ai ?_
  |(refine aj ?_ ?_<;>intro h)
  |refine oc (fU _) ?_
  |refine oc (dD _) ?_
  |refine oc (gz _) ?_
 all_goals first
  |(refine Lg ?_;(try simp only[Qab,Qaa,Qac] at*);simp only[lG,GG, *,cond_true,cond_false,bl];done)
  |(refine Lh ?_;(try simp only[Qab,Qaa,Qac] at*);simp only[lG,GG, *,cond_true,cond_false,bl];done)
theorem vx (xs:List GateShape) (o:GateObject):Spec P 214 [.d (ab xs),st o.e] (CJ (gb (af xs o.kind o.values.length).1 o.values 0)):=by
 refine Spec.of_vc aO aA [.tmp 4] Tryz.func214 rfl rfl rfl rfl (fun hok=>?_);have hb:=ji (o:=o) ⟨hok.2.1,trivial⟩;repeat refine ai ?_
 refine oc (gy _ _) ?_;obtain ⟨hl,_⟩:=cj (xs:=xs) (k:=o.kind) (n:=o.values.length);generalize (af xs o.kind o.values.length).1=fs at*;repeat refine ai ?_
 refine d8 (fs) (fun i=>gb fs o.values 0=gb (fs.drop i) (o.values.drop i) i) (fun i=>[(3,.ptr 0 0),(15,.d (ad fs)),(16,.d (.int .i64 (fs.map GateField.e).length)),(17,.d (.int .i64 i))]) (fun i=>⟨[(0,.cells 103 (o.e.map .d))],1,0⟩) (rfl) ?_;intro i hi hr;have hs:fs.length≤big:=by omega
 repeat refine ai ?_
 refine aj ?_ ?_<;>intro g1
 ·have hlt:i<fs.length:=U g1
  have hlt2:i<o.values.length:=by omega
  rw[wR hlt hlt2] at hr;repeat refine ai ?_
  refine O (e:=GateField.e) (xs:=fs) (hlt) rfl ?_;repeat refine ai ?_
  refine aj ?_ ?_<;>intro g2
  ·repeat refine ai ?_
   refine O (e:=eB) (xs:=o.values) (hlt2) rfl ?_;repeat refine ai ?_
   refine aj ?_ ?_<;>intro g3
   ·refine Jz ?_ rfl
    simp only[hr, *,cond_true,cond_false]
   ·repeat refine ai ?_
    refine ak ?_;repeat refine ai ?_
    refine O (e:=eB) (xs:=o.values) (hlt2) rfl ?_;repeat refine ai ?_
    refine aj ?_ ?_<;>intro g4
    ·repeat refine ai ?_
     refine O (e:=eB) (xs:=o.values) (hlt2) rfl ?_;repeat refine ai ?_
     refine oc (fw _ _) ?_;repeat refine ai ?_
     refine aj ?_ ?_<;>intro g5
     ·simp only[bne,cond_true,cond_false,Qab,Qaa] at*
      refine Jz ?_ rfl;first|(simp only[hr, *,cond_true,cond_false];done)|(simp_all;done)
     ·simp only[bne,cond_true,cond_false,Qab,Qaa] at*
      have hq:gb fs o.values 0=gb (fs.drop (i+1)) (o.values.drop (i+1)) (i+1):=by first|(simp only[hr, *,cond_true,cond_false];done)|(simp_all;done)
      repeat refine ai ?_
      exact bJ hlt hs hq
    ·repeat refine ai ?_
     refine an ?_;simp only[bne,cond_true,cond_false,Qab,Qaa] at*;have hq:gb fs o.values 0=gb (fs.drop (i+1)) (o.values.drop (i+1)) (i+1):=by first|(simp only[hr, *,cond_true,cond_false];done)|(simp_all;done)
     repeat refine ai ?_
     exact bJ hlt hs hq
  ·repeat refine ai ?_
   refine ak ?_;repeat refine ai ?_
   refine O (e:=eB) (xs:=o.values) (hlt2) rfl ?_;repeat refine ai ?_
   refine aj ?_ ?_<;>intro g4
   ·repeat refine ai ?_
    refine O (e:=eB) (xs:=o.values) (hlt2) rfl ?_;repeat refine ai ?_
    refine oc (fw _ _) ?_;repeat refine ai ?_
    refine aj ?_ ?_<;>intro g5
    ·simp only[bne,cond_true,cond_false,Qab,Qaa] at*
     refine Jz ?_ rfl;first|(simp only[hr, *,cond_true,cond_false];done)|(simp_all;done)
    ·simp only[bne,cond_true,cond_false,Qab,Qaa] at*
     have hq:gb fs o.values 0=gb (fs.drop (i+1)) (o.values.drop (i+1)) (i+1):=by first|(simp only[hr, *,cond_true,cond_false];done)|(simp_all;done)
     repeat refine ai ?_
     exact bJ hlt hs hq
   ·repeat refine ai ?_
    refine an ?_;simp only[bne,cond_true,cond_false,Qab,Qaa] at*;have hq:gb fs o.values 0=gb (fs.drop (i+1)) (o.values.drop (i+1)) (i+1):=by first|(simp only[hr, *,cond_true,cond_false];done)|(simp_all;done)
    repeat refine ai ?_
    exact bJ hlt hs hq
 ·have e:gb fs o.values 0=(0,0):=by rw[hr,Bi (V g1)]
  rw[e];rfl
theorem Fi {fs:List GateField} {vs:List Bs}:∀{i:Nat},((gb fs vs i).1==0)=true→gb fs vs i=(0,0):=by
 induction fs generalizing vs with
 |nil=>intro i _;rfl
 |cons f fs ih=>
  intro i h
  cases vs with
  |nil=>rfl
  |cons v vs=>
   simp only[gb] at h ⊢;cases h1:v==[]<;>cases h2:f.must<;>cases h3:dI f v<;>simp only[h1,h2,h3,cond_true,cond_false] at h ⊢ <;>first|exact ih h|(simp at h;done)
theorem lD (xs:List GateShape) (o:GateObject):Spec P 183 [.d (ab xs),st o.e] (Ge (ku xs o)):=by
 refine Spec.of_vc aO aA [.tmp 4,.tmp 5] Tryz.func183 rfl rfl rfl rfl (fun hok=>?_);have hform:=AS xs o;have hfields:=vx xs o
 have hpair:ku xs o=bif lG xs o&&aR xs then gb (af xs o.kind o.values.length).1 o.values 0 else (1,0):=by
  unfold ku DA;cases aR xs<;>cases lG xs o<;>rfl
 rw[hpair];generalize (lG xs o&&aR xs)=b at*;repeat refine ai ?_
 refine ⟨fun m l h=>∃i:Nat,m=2 - i∧i≤2∧(i=0∨b=true)∧(i=2→((gb (af xs o.kind o.values.length).1 o.values 0).1==0)=true)∧l=[(0,.d (ab xs)),(3,.ptr 0 0),(9,.d (.list [[.fn 213],[.fn 214]])),(10,.d (.int .i64 2)),(11,.d (.int .i64 i))]∧h=⟨[(0,.cells 103 (o.e.map .d))],1,0⟩,
  ⟨_,_,_,⟨0,rfl,Qaj _,.inl rfl,fun h=>(by cases h),rfl,rfl⟩,rfl,rfl,⟨rfl,rfl,rfl,rfl,rfl,trivial⟩,⟨rfl,trivial⟩,⟨rfl,trivial⟩⟩,?_⟩
 rintro m l hh ⟨i,rfl,hi,hb,hz,rfl,rfl⟩;rcases (show i=0∨i=1∨i=2 by omega) with rfl|rfl|rfl
 ·repeat refine ai ?_
  refine ay ?_;repeat refine ai ?_
  refine ⟨by decide,_,rfl,rfl,?_⟩
  cases b with
  |false=>
   replace hform:Spec P 213 [.d (ab xs),st o.e] (.iface 264 (.at_ [.int .i64 1,.int .i64 0])):=hform
   repeat refine ai ?_
   refine oc (hform) ?_;repeat refine ai ?_
   refine ay ?_;repeat refine ai ?_
   refine oc (GJ _ _) ?_
   rfl
  |true=>
   replace hform:Spec P 213 [.d (ab xs),st o.e] (.val .nilIface):=hform
   repeat refine ai ?_
   refine oc (hform) ?_;repeat refine ai ?_
   refine an ?_;repeat refine ai ?_
   exact ⟨_,_,_,⟨1,rfl,by decide,.inr rfl,fun h=>(by cases h),rfl,rfl⟩,by decide,rfl,rfl,⟨rfl,rfl,rfl,rfl,rfl,trivial⟩,⟨rfl,trivial⟩,⟨rfl,trivial⟩⟩
 ·have hb':b=true:=by rcases hb with h|h;cases h;exact h
  subst hb';repeat refine ai ?_
  refine ay ?_;repeat refine ai ?_
  refine ⟨by decide,_,rfl,rfl,?_⟩;unfold CJ at hfields
  cases hq:((gb (af xs o.kind o.values.length).1 o.values 0).1==0) with
  |false=>
   rw[hq] at hfields;simp only[cond_true,cond_false] at hfields;repeat refine ai ?_
   refine oc (hfields) ?_;repeat refine ai ?_
   refine ay ?_;repeat refine ai ?_
   refine oc (GJ _ _) ?_
   rfl
  |true=>
   rw[hq] at hfields;simp only[cond_true,cond_false] at hfields;repeat refine ai ?_
   refine oc (hfields) ?_;repeat refine ai ?_
   refine an ?_;repeat refine ai ?_
   exact ⟨_,_,_,⟨2,rfl,by decide,.inr rfl,fun _=>rfl,rfl,rfl⟩,by decide,rfl,rfl,⟨rfl,rfl,rfl,rfl,rfl,trivial⟩,⟨rfl,trivial⟩,⟨rfl,trivial⟩⟩
 ·have hb':b=true:=by rcases hb with h|h;cases h;exact h
  subst hb';repeat refine ai ?_
  refine an ?_;rw[cond_true,Fi (hz rfl)];rfl
end Go.Vc
end
