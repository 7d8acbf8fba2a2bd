/- The law TableOne: what stands at the heads of its loops, and the plain laws of its rounds. -/
import Derived.Test.YtfhfkfnffajciaaTab9
import Derived.Test.YtfhfkfnffajciaaRunKey
namespace Go.Proofs
open Go.RowKit Go.Proofs.Ytfhfkfnffajciaa

namespace Ytfhfkfnffajciaa
variable {w0 w : World} {L : List Asn} {p : Nat} {t : Tab} {N : Nat}

structure Act12 where
  kind : Int
  run : Int
  caller : Int
  refresh : Bool
  key : Key
  out : Outcome
def Act12.cells (x : Act12) : List Value := [int x.kind, int x.run, int x.caller, .bool x.refresh, .int .u16 x.key.space, .string x.key.name, int x.out.value, int x.out.fail.kind, int x.out.fail.code, int x.out.fail.run]
/-- a slice of acts, read -/
def ActsAt (w : World) (b o : Nat) (l : List Act12) : Prop := ∀ i x, l[i]? = some x → ∀ j v, x.cells[j]? = some v → w.cell? ⟨b, o + i * 10 + j, none⟩ = some v
theorem add_flat (b o n : Nat) : (⟨b, o, none⟩ : Addr).add n = ⟨b, o + n, none⟩ := by
  unfold Addr.add; split
  · rename_i h; subst h; rfl
  · rfl
theorem run_indexAt_rows {P : Program} {t e : TypeId} {size : Nat} (ht : P.underlying t = some (.slice e)) (hs : ∀ w, (sizeOf e).run P w = .ok size w) (W : World) (b o len cap k : Nat) (h : k < len) :
    (Instr.indexAt t (.slice (some ⟨b, o, none⟩) len cap) (.int .i64 k)).run P W = .ok (.pointer (some ⟨b, o + k * size, none⟩)) W := by
  have h1 : (k : Int) < (len : Int) := by omega
  have h2 : ¬ ((k : Int) < 0) := by omega
  simp [Instr.indexAt, asIntOf, run_underlying ht, hs, h, add_flat]
/-- what stands at the head of the law's loop -/
def OneRel (w : World) (p gb : Nat) (len : Nat) (fl : Int) (i : Value) (wr : World) : Prop :=
  ∃ (k : Nat) (t : Tab) (gl : List (Key × Int)), k ≤ len ∧ i = int k ∧ TInv t (2 * k) ∧ t.flight = fl ∧ (∀ k, (aget gl k).getD 0 ≤ t.gen k) ∧ St w wr [tabA p t, mapA Key.enc int gb gl]

theorem cell_lt {w : World} {a : Addr} {v : Value} (h : w.cell? a = some v) : a.block < w.heap.size := by
  unfold World.cell? at h
  split at h
  · rename_i he; exact (Array.getElem?_eq_some_iff.1 he).1
  · cases h
def oneOf (r : Run) : Run := ⟨0, r.key, r.gen, false⟩
/-- what stands at the head of the loop over the runs in progress -/
def OneIn (w : World) (p gb sb bx : Nat) (x : Act12) (t : Tab) (v : Value) (i : Value) (wr : World) : Prop :=
  ∃ (j : Nat) (gl : List (Key × Int)) (seen : List (Run × Bool)), j ≤ t.runs.length ∧ i = int j ∧ (∀ k, (aget gl k).getD 0 ≤ t.gen k) ∧ (∀ one, (aget seen one).getD false = true → ∃ m ∈ (akeys t.runs).take j, one = oneOf (t.run m)) ∧
    St w wr [mapA Run.enc Value.bool sb seen, rowA 3 1 v t.runs.length ((akeys t.runs).map int), tabA p t, cells bx x.cells 37, mapA Key.enc int gb gl]
/-- what stands behind an act -/
def OneMid2 (w : World) (p gb : Nat) (N : Nat) (fl : Int) (gl : List (Key × Int)) (x : Act12) (bx : Nat) (was kk : Int) (wx : World) : Prop :=
  ∃ (t : Tab), TInv t N ∧ t.flight = fl ∧ (∀ k, (aget gl k).getD 0 ≤ t.gen k) ∧ was ≤ t.gen x.key ∧ t.gen x.key ≤ was + 1 ∧
    (kk = 6 → x.key.name.size ≤ 64 → t.gen x.key = was + 1) ∧ 0 ≤ was ∧ St w wx [cells bx x.cells 37, tabA p t, mapA Key.enc int gb gl]

/-! ### the plain laws of an inner round -/
section
variable {j : Nat} {n0 : Int} {x0 : Nat × Rec} {seen : List (Run × Bool)} {gl : List (Key × Int)}
theorem run_of (h : aget t.runs n0 = some x0) : t.run n0 = x0.2.run := by simp [Tab.run, h]
theorem one_unseen (hI : TInv t N) (hn0 : (akeys t.runs)[j]? = some n0) (hx0 : aget t.runs n0 = some x0) (hsn : ∀ one, (aget seen one).getD false = true → ∃ m ∈ (akeys t.runs).take j, one = oneOf (t.run m)) :
    (aget seen (oneOf (t.run n0))).getD false = false := by
  cases h : (aget seen (oneOf (t.run n0))).getD false with
  | false => rfl
  | true =>
    exfalso
    obtain ⟨m, hm, he⟩ := hsn _ h
    obtain ⟨i, hi, rfl⟩ := List.getElem_of_mem hm
    have hij : i < j := by have := hi; simp at this; omega
    have hil : i < (akeys t.runs).length := by have := hi; simp at this; omega
    rw [List.getElem_take] at he
    obtain ⟨x, hx⟩ := mem_akeys.1 (List.getElem_mem hil)
    rw [run_of hx0, run_of hx] at he
    simp only [oneOf, Run.mk.injEq, true_and, and_true] at he
    have e := hI.uniq _ _ _ _ hx0 hx he.1 he.2
    obtain ⟨hj, hj2⟩ := List.getElem?_eq_some_iff.1 hn0
    have := List.pairwise_iff_getElem.1 hI.asc i j hil hj hij
    rw [hj2, e] at this
    omega
theorem seen_put (hn0 : (akeys t.runs)[j]? = some n0) (hsn : ∀ one, (aget seen one).getD false = true → ∃ m ∈ (akeys t.runs).take j, one = oneOf (t.run m)) :
    ∀ one, (aget (aput seen (oneOf (t.run n0)) true) one).getD false = true → ∃ m ∈ (akeys t.runs).take (j + 1), one = oneOf (t.run m) := by
  intro one h
  obtain ⟨hj, hj2⟩ := List.getElem?_eq_some_iff.1 hn0
  rw [List.take_succ_eq_append_getElem hj, hj2]
  rw [aget_aput] at h
  split at h
  · rename_i e
    exact ⟨n0, by simp, e.symm⟩
  · obtain ⟨m, hm, e⟩ := hsn one h
    exact ⟨m, by simp [hm], e⟩
theorem gens_put (k0 : Key) (h : ∀ k, (aget gl k).getD 0 ≤ t.gen k) : ∀ k, (aget (aput gl k0 (t.gen k0)) k).getD 0 ≤ t.gen k := by
  intro k
  rw [aget_aput]
  split
  · rename_i e; subst e; simp
  · exact h k
theorem wait_none (hI : TInv t N) (h : t.cancelled n0 = true) : (t.waiters n0) = [] := by
  unfold Tab.cancelled at h
  cases hx : aget t.runs n0 with
  | none => simp [Tab.waiters, hx]
  | some x =>
    rw [hx] at h
    simp only [Tab.waiters, hx]
    exact ((hI.rcs n0 x hx).2.2.2.1 h).1
theorem gen_le (hI : TInv t N) (hx0 : aget t.runs n0 = some x0) : (t.run n0).gen ≤ t.gen (t.run n0).key := by
  rw [run_of hx0]; exact (hI.rcs n0 x0 hx0).2.2.2.2.2
end
end Ytfhfkfnffajciaa
end Go.Proofs
