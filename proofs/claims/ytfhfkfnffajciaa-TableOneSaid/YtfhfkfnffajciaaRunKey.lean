/- Runs as keys of maps. -/
import Derived.Test.YtfhfkfnffajciaaTabA
import Derived.Test.YtfhfkfnffajciaaEqT
namespace Go.Proofs
open Go.RowKit Go.Proofs.Ytfhfkfnffajciaa
namespace Ytfhfkfnffajciaa
def Run.enc (x : Run) : Value := .agg #[int x.run, .int .u16 x.key.space, .string x.key.name, int x.gen, .bool x.refresh]
theorem Run.enc_eq (k : Run) : Value.agg #[int k.run, .int .u16 k.key.space, .string k.key.name, int k.gen, .bool k.refresh] = k.enc := rfl
theorem run_equal_run (n : Nat) (w : World) (a b : Run) : (Op.equalIn (n + 6) 58 a.enc b.enc).run Try.prog w = .ok (decide (a = b)) w := by
  have h := run_equalIn_flat (P := Try.prog) 6 (n + 6) 58 _ [int a.run, .int .u16 a.key.space, .string a.key.name, int a.gen, .bool a.refresh] [int b.run, .int .u16 b.key.space, .string b.key.name, int b.gen, .bool b.refresh] w (by omega) flatRun
    ⟨⟨_, rfl⟩, ⟨_, rfl⟩, ⟨_, rfl⟩, ⟨_, rfl⟩, ⟨_, rfl⟩, trivial⟩ ⟨⟨_, rfl⟩, ⟨_, rfl⟩, ⟨_, rfl⟩, ⟨_, rfl⟩, ⟨_, rfl⟩, trivial⟩
  have ho : ∀ cs : List Value, ofCells Try.prog 58 cs = .agg cs.toArray := fun cs => by simp [ofCells, Try.underlying58]
  rw [ho, ho] at h
  have ea : a.enc = .agg [int a.run, .int .u16 a.key.space, .string a.key.name, int a.gen, .bool a.refresh].toArray := rfl
  have eb : b.enc = .agg [int b.run, .int .u16 b.key.space, .string b.key.name, int b.gen, .bool b.refresh].toArray := rfl
  rw [ea, eb, h]
  refine congrArg (fun b => Result.ok b w) ?_
  obtain ⟨a1, ⟨a2, a3⟩, a4, a5⟩ := a
  obtain ⟨b1, ⟨b2, b3⟩, b4, b5⟩ := b
  simp only [cellsEq, cellEq]
  rw [Bool.eq_iff_iff]
  simp [and_assoc]
theorem part_agg2 (w : World) {P : Program} {t : TypeId} {fs : Array Field} {cs : Array Value} {o n : Nat} {vs : List Value} (h : P.underlying t = some (.struct fs)) (hs : ∀ w, (sizeOf t).run P w = .ok n w) (hv : cs.extract o (o + n) = vs.toArray) : (part t cs o).run P w = .ok (.agg vs.toArray) w := by
  simp [part, isAgg, run_underlying h, hs, hv]
theorem run_check_run (em : Bool) (n : Nat) (w : World) (k : Run) : (Instr.checkKey em (n + 4) 58 k.enc).run Try.prog w = .ok () w := by
  have c1 : ∀ a : Int, (Instr.checkKey em (n + 3) 3 (.int .i64 a)).run Try.prog w = .ok () w := fun a => MapKept.run_checkKey (d := .int .i64) Try.underlying3 (k := .int .i64 a) rfl em (n + 2)
  have c2 : ∀ a : Bool, (Instr.checkKey em (n + 3) 4 (.bool a)).run Try.prog w = .ok () w := fun a => MapKept.run_checkKey (d := .bool) Try.underlying4 (k := .bool a) trivial em (n + 2)
  have c3 : (Instr.checkKey em (n + 3) 31 k.key.enc).run Try.prog w = .ok () w := run_check_key em (n + 1) w k.key
  have p1 := part_agg2 w (t := 31) (cs := #[int k.run, .int .u16 k.key.space, .string k.key.name, int k.gen, .bool k.refresh]) (o := 1) (n := 2) (vs := [.int .u16 k.key.space, .string k.key.name]) Try.underlying31 Try.sizeOf31 rfl
  unfold Run.enc
  rw [Instr.checkKey.eq_def]
  simp only [Sem.run_bind, run_underlying Try.underlying58, Result.andThen_ok]
  simp only [Key.enc] at c3
  simp [c1, c2, c3, p1, part_int w Try.underlying3 (v := .int .i64 k.run) (cs := #[int k.run, .int .u16 k.key.space, .string k.key.name, int k.gen, .bool k.refresh]) (o := 0) rfl,
    part_int w Try.underlying3 (v := .int .i64 k.gen) (cs := #[int k.run, .int .u16 k.key.space, .string k.key.name, int k.gen, .bool k.refresh]) (o := 3) rfl,
    part_bool w Try.underlying4 (v := .bool k.refresh) (cs := #[int k.run, .int .u16 k.key.space, .string k.key.name, int k.gen, .bool k.refresh]) (o := 4) rfl]
theorem sameBits_run (n : Nat) (k : Run) : Instr.sameBits (n + 1) k.enc k.enc = true := by
  simp [Run.enc, Instr.sameBits, beq_toListBytes]
theorem runTy : KeyTy Try.prog 58 Run.enc :=
  keyTy_of_eq Try.underlying58 (fun _ _ => rfl) (fun w a b => run_equal_run 9994 w a b) (fun w em k => run_check_run em 9996 w k) (sameBits_run 9999)
theorem zeroBool (w : World) : (zeroValue 4).run Try.prog w = .ok (.bool false) w := by kernel_rfl
end Ytfhfkfnffajciaa
end Go.Proofs
