/- The program's data, as Lean structures, and how they lie in cells. Printed by our gen/gend.py. -/
import Derived.Test.YtcmlhhjnbopbnaaJoJ25
namespace Go.Jo
set_option autoImplicit false
structure GSel where
  Side : Int
  Zone : Int
  Kind : Int
  deriving Inhabited
def encGSel (x : GSel) : List D := [dU x.Side, dU x.Zone, dU x.Kind]
structure GExpr where
  Op : Int
  N : Int
  Side : Int
  Sel : GSel
  ArgsN : Nat
  ArgsF : Nat → List D
  deriving Inhabited
def encGExpr (x : GExpr) : List D := [dU x.Op, dI x.N, dU x.Side, dU x.Sel.Side, dU x.Sel.Zone, dU x.Sel.Kind, .sl 7 x.ArgsN x.ArgsF]
structure GStep where
  Do : Int
  Side : Int
  N : GExpr
  All : Bool
  Sel : GSel
  deriving Inhabited
def encGStep (x : GStep) : List D := [dU x.Do, dU x.Side, dU x.N.Op, dI x.N.N, dU x.N.Side, dU x.N.Sel.Side, dU x.N.Sel.Zone, dU x.N.Sel.Kind, .sl 7 x.N.ArgsN x.N.ArgsF, dB x.All, dU x.Sel.Side, dU x.Sel.Zone, dU x.Sel.Kind]
structure GEffect where
  Mode : Int
  Ev : Int
  Side : Int
  Cond : (List GExpr)
  Pay : Int
  Discard : Int
  Tribute : Bool
  Pick : Int
  Sel : GSel
  Steps : (List GStep)
  deriving Inhabited
def encGEffect (x : GEffect) : List D := [dU x.Mode, dU x.Ev, dU x.Side, slOf 7 encGExpr x.Cond, dI x.Pay, dI x.Discard, dB x.Tribute, dI x.Pick, dU x.Sel.Side, dU x.Sel.Zone, dU x.Sel.Kind, slOf 13 encGStep x.Steps]
structure GCard where
  Name : ByteArray
  Kind : Int
  Level : Int
  Attack : Int
  Guard : Int
  Effects : (List GEffect)
  deriving Inhabited
def encGCard (x : GCard) : List D := [dS x.Name, dU x.Kind, dI x.Level, dI x.Attack, dI x.Guard, slOf 12 encGEffect x.Effects]
structure GPiece where
  Def : Int
  Attack : Int
  Guard : Int
  Owner : Int
  Has : Int
  Zone : Int
  At : Int
  Up : Bool
  Low : Bool
  Since : Int
  Used : Int
  Struck : Bool
  Turned : Bool
  Boost : Int
  deriving Inhabited
def encGPiece (x : GPiece) : List D := [dI x.Def, dI x.Attack, dI x.Guard, dU x.Owner, dU x.Has, dU x.Zone, dI x.At, dB x.Up, dB x.Low, dI x.Since, dU x.Used, dB x.Struck, dB x.Turned, dI x.Boost]
structure GEvent where
  Ev : Int
  Moment : Int
  Piece : Int
  Who : Int
  deriving Inhabited
def encGEvent (x : GEvent) : List D := [dU x.Ev, dI x.Moment, dI x.Piece, dU x.Who]
structure GTable where
  Kinds : (List GCard)
  Pieces : (List GPiece)
  Life : (Int × Int)
  Turn : Int
  Player : Int
  Moment : Int
  Events : (List GEvent)
  Lost : (Bool × Bool)
  deriving Inhabited
def encGTable (x : GTable) : List D := [slOf 6 encGCard x.Kinds, slOf 14 encGPiece x.Pieces, dI x.Life.1, dI x.Life.2, dI x.Turn, dU x.Player, dI x.Moment, slOf 4 encGEvent x.Events, dB x.Lost.1, dB x.Lost.2]
structure GOption where
  Do : Int
  Piece : Int
  Arg : Int
  deriving Inhabited
def encGOption (x : GOption) : List D := [dU x.Do, dI x.Piece, dI x.Arg]
structure GMove where
  What : Int
  Id : Int
  Zone : Int
  Who : Int
  Up : Bool
  Low : Bool
  deriving Inhabited
def encGMove (x : GMove) : List D := [dU x.What, dI x.Id, dU x.Zone, dU x.Who, dB x.Up, dB x.Low]
structure GReady where
  Who : Int
  Piece : Int
  Effect : Int
  Must : Bool
  deriving Inhabited
def encGReady (x : GReady) : List D := [dU x.Who, dI x.Piece, dI x.Effect, dB x.Must]
structure GLink where
  Who : Int
  Piece : Int
  Effect : Int
  Picks : (List Int)
  Speed : Int
  Dead : Bool
  deriving Inhabited
def encGLink (x : GLink) : List D := [dU x.Who, dI x.Piece, dI x.Effect, slI x.Picks, dU x.Speed, dB x.Dead]
structure GWindow where
  Main : Bool
  Trying : Bool
  Recent : (List GEvent)
  Links : (List GLink)
  deriving Inhabited
def encGWindow (x : GWindow) : List D := [dB x.Main, dB x.Trying, slOf 4 encGEvent x.Recent, slOf 6 encGLink x.Links]
structure Gteller where
  t : GTable
  who : Int
  id : Int
  bad : Bool
  deriving Inhabited
def encGteller (x : Gteller) : List D := [slOf 6 encGCard x.t.Kinds, slOf 14 encGPiece x.t.Pieces, dI x.t.Life.1, dI x.t.Life.2, dI x.t.Turn, dU x.t.Player, dI x.t.Moment, slOf 4 encGEvent x.t.Events, dB x.t.Lost.1, dB x.t.Lost.2, dU x.who, dI x.id, dB x.bad]
structure Gspot where
  who : Int
  zone : Int
  at_ : Int
  deriving Inhabited
def encGspot (x : Gspot) : List D := [dU x.who, dU x.zone, dI x.at_]
structure Gkey where
  free : Bool
  other : Bool
  deriving Inhabited
def encGkey (x : Gkey) : List D := [dB x.free, dB x.other]
structure Gasked where
  t : GTable
  who : Int
  id : Int
  n : Int
  p : GPiece
  e : GEffect
  w : GWindow
  deriving Inhabited
def encGasked (x : Gasked) : List D := [slOf 6 encGCard x.t.Kinds, slOf 14 encGPiece x.t.Pieces, dI x.t.Life.1, dI x.t.Life.2, dI x.t.Turn, dU x.t.Player, dI x.t.Moment, slOf 4 encGEvent x.t.Events, dB x.t.Lost.1, dB x.t.Lost.2, dU x.who, dI x.id, dI x.n, dI x.p.Def, dI x.p.Attack, dI x.p.Guard, dU x.p.Owner, dU x.p.Has, dU x.p.Zone, dI x.p.At, dB x.p.Up, dB x.p.Low, dI x.p.Since, dU x.p.Used, dB x.p.Struck, dB x.p.Turned, dI x.p.Boost, dU x.e.Mode, dU x.e.Ev, dU x.e.Side, slOf 7 encGExpr x.e.Cond, dI x.e.Pay, dI x.e.Discard, dB x.e.Tribute, dI x.e.Pick, dU x.e.Sel.Side, dU x.e.Sel.Zone, dU x.e.Sel.Kind, slOf 13 encGStep x.e.Steps, dB x.w.Main, dB x.w.Trying, slOf 4 encGEvent x.w.Recent, slOf 6 encGLink x.w.Links]
def encA24 (x : (Int × Int)) : List D := [dI x.1, dI x.2]
def encA26 (x : (Bool × Bool)) : List D := [dB x.1, dB x.2]
def encA74 (x : ((List Int) × (List Int))) : List D := [slI x.1, slI x.2]
end Go.Jo
