/- Records and tables, as assertions. -/
import Derived.Test.YtfhfkfnffajciaaKey
import Derived.Test.YtfhfkfnffajciaaRow
namespace Go.Proofs
open Go.RowKit Go.Proofs.Ytfhfkfnffajciaa
namespace Ytfhfkfnffajciaa

structure Run where
  run : Int
  key : Key
  gen : Int
  refresh : Bool
  deriving DecidableEq
structure Fail where
  kind : Int
  code : Int
  run : Int
  deriving DecidableEq
structure Outcome where
  value : Int
  fail : Fail
  deriving DecidableEq
structure Rec where
  run : Run
  waiters : List Int
  kept : Bool
  cancelled : Bool
  ended : Bool
  outcome : Outcome

/-- a pointer to the head of a block -/
abbrev ptr (p : Nat) : Value := .pointer (some ⟨p, 0, none⟩)
abbrev int (n : Int) : Value := .int .i64 n

def recCells (v : Value) (r : Rec) : List Value :=
  [int r.run.run, .int .u16 r.run.key.space, .string r.run.key.name, int r.run.gen, .bool r.run.refresh, v, .bool r.kept, .bool r.cancelled, .bool r.ended, int r.outcome.value, int r.outcome.fail.kind, int r.outcome.fail.code, int r.outcome.fail.run]
def recA (p : Nat) (r : Rec) : Asn := exA fun (v : Value) => star (cells p (recCells v r) 132) (rowA 3 1 v r.waiters.length (r.waiters.map int))

structure Tab where
  flight : Int
  begun : Int
  runs : List (Int × Nat × Rec)
  cur : List (Key × Int)
  gens : List (Key × Int)

def rptr (x : Nat × Rec) : Value := ptr x.1
def tabParts (p rb cb gb : Nat) (t : Tab) : List Asn :=
  [cells p [int t.flight, int t.begun, .map (some rb), .map (some cb), .map (some gb)] 85, mapA int rptr rb t.runs, mapA Key.enc int cb t.cur, mapA Key.enc int gb t.gens,
    Star (t.runs.map fun x => recA x.2.1 x.2.2)]
def tabA (p : Nat) (t : Tab) : Asn := exA fun (rb : Nat) => exA fun (cb : Nat) => exA fun (gb : Nat) => Star (tabParts p rb cb gb t)

section
variable {w0 w : World} {L : List Asn} {p : Nat} {t : Tab} {r : Rec}
theorem St.tabOpen (s : St w0 w (tabA p t :: L)) : ∃ rb cb gb, St w0 w (tabParts p rb cb gb t ++ L) := by
  obtain ⟨rb, s⟩ := St.ex.1 s
  obtain ⟨cb, s⟩ := St.ex.1 s
  obtain ⟨gb, s⟩ := St.ex.1 s
  exact ⟨rb, cb, gb, St.many.1 s⟩
theorem St.tabShut {rb cb gb : Nat} (s : St w0 w (tabParts p rb cb gb t ++ L)) : St w0 w (tabA p t :: L) := St.ex.2 ⟨rb, St.ex.2 ⟨cb, St.ex.2 ⟨gb, St.many.2 s⟩⟩⟩
theorem St.recOpen (s : St w0 w (recA p r :: L)) : ∃ v, St w0 w (cells p (recCells v r) 132 :: rowA 3 1 v r.waiters.length (r.waiters.map int) :: L) := by
  obtain ⟨v, s⟩ := St.ex.1 s
  exact ⟨v, St.flat.1 s⟩
theorem St.recShut {v : Value} (s : St w0 w (cells p (recCells v r) 132 :: rowA 3 1 v r.waiters.length (r.waiters.map int) :: L)) : St w0 w (recA p r :: L) := St.ex.2 ⟨v, St.flat.2 s⟩
end
def Tab.new (n : Int) : Tab := { flight := n, begun := 0, runs := [], cur := [], gens := [] }
end Ytfhfkfnffajciaa
end Go.Proofs
