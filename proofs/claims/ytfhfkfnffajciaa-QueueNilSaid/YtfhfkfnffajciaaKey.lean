/- Keys: what they are as values, and as keys of maps. -/
import Derived.Test.YtfhfkfnffajciaaProg
import Derived.Test.YtfhfkfnffajciaaMap
import Derived.Laws.StructEq
namespace Go.Proofs
open Go.RowKit Go.Proofs.Ytfhfkfnffajciaa

structure Ytfhfkfnffajciaa.Key where
  space : Int
  name : ByteArray
  deriving DecidableEq
namespace Ytfhfkfnffajciaa
def Key.enc (k : Key) : Value := .agg #[.int .u16 k.space, .string k.name]
def Key.Ok (k : Key) : Prop := 0 ≤ k.space ∧ k.space ≤ 65535

theorem toList_inj (a b : ByteArray) : (a.toList == b.toList) = decide (a = b) := by
  rw [ByteArray.toList_eq, ByteArray.toList_eq]
  obtain ⟨⟨x⟩⟩ := a
  obtain ⟨⟨y⟩⟩ := b
  rw [Bool.eq_iff_iff]
  simp
theorem key_eq (a b : Key) : (decide (a.space = b.space) && decide (a.name = b.name)) = decide (a = b) := by
  cases a; cases b; simp [Bool.decide_and]
theorem part_int (w : World) {P : Program} {t : TypeId} {q : IntKind} {cs : Array Value} {o : Nat} {v : Value} (h : P.underlying t = some (.int q)) (hv : cs[o]? = some v) : (part t cs o).run P w = .ok v w := by
  simp [part, isAgg, run_underlying h, hv]
theorem part_string (w : World) {P : Program} {t : TypeId} {cs : Array Value} {o : Nat} {v : Value} (h : P.underlying t = some .string) (hv : cs[o]? = some v) : (part t cs o).run P w = .ok v w := by
  simp [part, isAgg, run_underlying h, hv]
theorem part_bool (w : World) {P : Program} {t : TypeId} {cs : Array Value} {o : Nat} {v : Value} (h : P.underlying t = some .bool) (hv : cs[o]? = some v) : (part t cs o).run P w = .ok v w := by
  simp [part, isAgg, run_underlying h, hv]
theorem run_equal_key (n : Nat) (w : World) (a b : Key) : (Op.equalIn (n + 2) 31 a.enc b.enc).run Try.prog w = .ok (decide (a = b)) w := by
  rw [← key_eq]
  unfold Key.enc
  rw [run_equalIn_agg w (n + 1) _ _ _ (by simp only [Program.fieldsOf, Try.underlying31]) (by kernel_rfl)]
  simp only [Program.fieldsOf, Try.underlying31, Op.eqFields, Sem.run_bind, ne_eq, String.reduceEq, not_false_eq_true, if_true,
    part_int w Try.underlying29 (v := .int .u16 a.space) (cs := #[.int .u16 a.space, .string a.name]) (o := 0) rfl, part_int w Try.underlying29 (v := .int .u16 b.space) (cs := #[.int .u16 b.space, .string b.name]) (o := 0) rfl,
    part_string w Try.underlying9 (v := .string a.name) (cs := #[.int .u16 a.space, .string a.name]) (o := 1) rfl, part_string w Try.underlying9 (v := .string b.name) (cs := #[.int .u16 b.space, .string b.name]) (o := 1) rfl,
    Result.andThen_ok, run_equalIn_int w n _ _ _ _ _ Try.underlying29, run_equalIn_string w n _ _ _ Try.underlying9, toList_inj, Sem.run_ite, Sem.run_pure]
  by_cases h1 : a.space = b.space <;> by_cases h2 : a.name = b.name <;> simp [h1, h2]
theorem run_check_key (em : Bool) (n : Nat) (w : World) (k : Key) : (Instr.checkKey em (n + 2) 31 k.enc).run Try.prog w = .ok () w := by
  have c1 : (Instr.checkKey em (n + 1) 29 (.int .u16 k.space)).run Try.prog w = .ok () w := MapKept.run_checkKey (d := .int .u16) Try.underlying29 (k := .int .u16 k.space) rfl em n
  have c2 : (Instr.checkKey em (n + 1) 9 (.string k.name)).run Try.prog w = .ok () w := MapKept.run_checkKey (d := .string) Try.underlying9 (k := .string k.name) trivial em n
  unfold Key.enc
  rw [Instr.checkKey.eq_def]
  simp only [Sem.run_bind, run_underlying Try.underlying31, Result.andThen_ok]
  simp [c1, c2, part_int w Try.underlying29 (v := .int .u16 k.space) (cs := #[.int .u16 k.space, .string k.name]) (o := 0) rfl, part_string w Try.underlying9 (v := .string k.name) (cs := #[.int .u16 k.space, .string k.name]) (o := 1) rfl]
theorem sameBits_key (n : Nat) (k : Key) : Instr.sameBits (n + 1) k.enc k.enc = true := by
  simp [Key.enc, Instr.sameBits, beq_toListBytes]
theorem keyTy : KeyTy Try.prog 31 Key.enc :=
  keyTy_of_eq Try.underlying31 (fun _ _ => rfl) (fun w a b => run_equal_key 9998 w a b) (fun w em k => run_check_key em 9998 w k) (sameBits_key 9999)
theorem intTy : KeyTy Try.prog 3 (Value.int .i64) := keyTy_int Try.underlying3
end Ytfhfkfnffajciaa
end Go.Proofs
