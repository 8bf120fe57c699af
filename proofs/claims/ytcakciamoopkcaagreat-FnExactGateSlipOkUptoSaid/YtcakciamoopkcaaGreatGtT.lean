/- Pure data of the laws, printed by genlaws.py: structures and how they lie in memory. -/
import Derived.Test.YtcakciamoopkcaaGreatVcR
namespace Go.Vc
def eB (s : Bs) : List D := [.str s]
def eN (n : Int) : List D := [.int .i64 n]
def lS (l : List Bs) : D := .list (l.map eB)
def lI (l : List Int) : D := .list (l.map eN)
structure GateField where
  name : Bs
  kind : Int
  least : Int
  most : Int
  words : List Bs
  to_ : Bs
  role : Int
  must : Bool
  fixed : Bool
  default_ : Bs
  weighs : Bs
def GateField.e (x : GateField) : List D := [.str x.name, .int .i64 x.kind, .int .i64 x.least, .int .i64 x.most, lS x.words, .str x.to_, .int .i64 x.role, .bool x.must, .bool x.fixed, .str x.default_, .str x.weighs]
def lGateField (l : List GateField) : D := .list (l.map GateField.e)
structure GateShape where
  kind : Bs
  fields : List GateField
def GateShape.e (x : GateShape) : List D := [.str x.kind, lGateField x.fields]
def lGateShape (l : List GateShape) : D := .list (l.map GateShape.e)
structure GateMend where
  kind : Bs
  field : Bs
  when_ : Bs
  is_ : Bs
  put : Bs
  from_ : Bs
def GateMend.e (x : GateMend) : List D := [.str x.kind, .str x.field, .str x.when_, .str x.is_, .str x.put, .str x.from_]
def lGateMend (l : List GateMend) : D := .list (l.map GateMend.e)
structure GateTeam where
  name : Bs
  over : Bs
def GateTeam.e (x : GateTeam) : List D := [.str x.name, .str x.over]
def lGateTeam (l : List GateTeam) : D := .list (l.map GateTeam.e)
structure GateLaw where
  shapes : List GateShape
  mends : List GateMend
  teams : List GateTeam
def GateLaw.e (x : GateLaw) : List D := [lGateShape x.shapes, lGateMend x.mends, lGateTeam x.teams]
def lGateLaw (l : List GateLaw) : D := .list (l.map GateLaw.e)
structure GateRule where
  verbs : List Int
  kind : Bs
  team : Bs
  prefix_ : Bs
def GateRule.e (x : GateRule) : List D := [lI x.verbs, .str x.kind, .str x.team, .str x.prefix_]
def lGateRule (l : List GateRule) : D := .list (l.map GateRule.e)
structure GateAsk where
  who : Bs
  verb : Int
  kind : Bs
  name : Bs
  team : Bs
  values : List Bs
  holds : List Bs
  seen : Int
  hold : Bs
  to_ : Bs
  rule : GateRule
  number : Int
def GateAsk.e (x : GateAsk) : List D := [.str x.who, .int .i64 x.verb, .str x.kind, .str x.name, .str x.team, lS x.values, lS x.holds, .int .i64 x.seen, .str x.hold, .str x.to_, lI x.rule.verbs, .str x.rule.kind, .str x.rule.team, .str x.rule.prefix_, .int .i64 x.number]
def lGateAsk (l : List GateAsk) : D := .list (l.map GateAsk.e)
structure GateWant where
  kind : Bs
  name : Bs
  version : Int
def GateWant.e (x : GateWant) : List D := [.str x.kind, .str x.name, .int .i64 x.version]
def lGateWant (l : List GateWant) : D := .list (l.map GateWant.e)
structure GateSlip where
  door : Bs
  ask : GateAsk
  given : Int
  wants : List GateWant
def GateSlip.e (x : GateSlip) : List D := [.str x.door, .str x.ask.who, .int .i64 x.ask.verb, .str x.ask.kind, .str x.ask.name, .str x.ask.team, lS x.ask.values, lS x.ask.holds, .int .i64 x.ask.seen, .str x.ask.hold, .str x.ask.to_, lI x.ask.rule.verbs, .str x.ask.rule.kind, .str x.ask.rule.team, .str x.ask.rule.prefix_, .int .i64 x.ask.number, .int .i64 x.given, lGateWant x.wants]
def lGateSlip (l : List GateSlip) : D := .list (l.map GateSlip.e)
/-- a struct as a value -/
def st (ds : List D) : AV := .agg (ds.map .d)
end Go.Vc
