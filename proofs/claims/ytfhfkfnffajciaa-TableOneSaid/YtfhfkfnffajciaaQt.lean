/- A region that draws its order, that reads, and whose callees leave what is asserted alone: walked once, in the order of the text. -/
import Derived.Test.YtfhfkfnffajciaaSl
namespace Go.Proofs.Ytfhfkfnffajciaa
open Go.RowKit
/-- a world in which the assertions hold -/
structure StW (w0 : World) (M : List Asn) where
  W : World
  h : St w0 W M
theorem wp_region_quiet_st {P : Program} {id : Nat} {Q : Exit → Act → World → Prop} {a : Act} {w0 w : World} {M : List Asn} {l : List Oper} (hm : P.follows .mixedOrders = true) (hB : Region.lexB .any l.toArray = true) (s : St w0 w M)
    (h : wpQuiet P l.toArray (fun w' => ∃ p : StW w0 M, w' = p.W) (fun a' => ∀ w', (∃ p : StW w0 M, w' = p.W) → Q .normal a' w') l a) : (Code.region id l.toArray true).wp P Q a w :=
  wp_region_quiet (C := fun w' => ∃ p : StW w0 M, w' = p.W) hm hB ⟨⟨_, s.drew⟩, rfl⟩ (by simpa using h)
theorem calls_st {P : Program} {f : FuncId} {args : Array Value} {w0 : World} {M : List Asn} {p : StW w0 M} {v : Value}
    (h : Calls P f args p.W fun e w' => e = .returned v ∧ Below p.W.heap.size p.W w') : Calls P f args p.W fun e w' => e = .returned v ∧ ∃ q : StW w0 M, w' = q.W :=
  h.mono fun _ _ ⟨he, hb⟩ => ⟨he, ⟨_, p.h.ext hb⟩, rfl⟩
theorem calls_st_same {P : Program} {f : FuncId} {args : Array Value} {w0 : World} {M : List Asn} {p : StW w0 M} {v : Value}
    (h : Calls P f args p.W fun e w' => e = .returned v ∧ p.W = w') : Calls P f args p.W fun e w' => e = .returned v ∧ ∃ q : StW w0 M, w' = q.W :=
  h.mono fun _ _ ⟨he, hb⟩ => ⟨he, p, hb.symm⟩
theorem calls_st_St {P : Program} {f : FuncId} {args : Array Value} {w0 : World} {M : List Asn} {p : StW w0 M} {v : Value}
    (h : Calls P f args p.W fun e w' => e = .returned v ∧ St w0 w' M) : Calls P f args p.W fun e w' => e = .returned v ∧ ∃ q : StW w0 M, w' = q.W :=
  h.mono fun _ _ ⟨he, hb⟩ => ⟨he, ⟨_, hb⟩, rfl⟩
end Go.Proofs.Ytfhfkfnffajciaa
