/- What an argument that can be read as data looks like: scalars, structs of them, slices of those; and the frame of a row's proof. -/
import Derived.WalkKit
import Derived.ProofKit
import Derived.OpenShut
import Derived.ShutString
import Derived.ChangeOld
import Derived.Below
import Derived.SizedLaws
import Derived.Deep.Slices
import Derived.Carry
import Derived.Test.YtfhfkfnffajciaaFlat
namespace Go.Proofs.Ytfhfkfnffajciaa
open Go.RowKit

def CT.Ok : CT → Value → Prop
  | .int q, v => ∃ n, v = .int q n ∧ (Lit.int q n).wf = true
  | .bool, v => ∃ b, v = .bool b
  | .str, v => ∃ s : ByteArray, v = .string s ∧ s.size ≤ maxLen
def Oks : List CT → List Value → Prop
  | [], [] => True
  | c :: cs, v :: vs => c.Ok v ∧ Oks cs vs
  | _, _ => False
theorem Oks.length : ∀ {l : List CT} {vs : List Value}, Oks l vs → vs.length = l.length
  | [], [], _ => rfl
  | [], _ :: _, h => h.elim
  | _ :: _, [], h => h.elim
  | _ :: l, _ :: vs, h => by simp [Oks.length (l := l) (vs := vs) h.2]
theorem Oks.cons {c : CT} {l : List CT} {vs : List Value} (h : Oks (c :: l) vs) : ∃ v ws, vs = v :: ws ∧ c.Ok v ∧ Oks l ws := by
  cases vs with
  | nil => exact h.elim
  | cons v ws => exact ⟨v, ws, rfl, h.1, h.2⟩
theorem Oks.nil {vs : List Value} (h : Oks [] vs) : vs = [] := by
  cases vs with
  | nil => rfl
  | cons v ws => exact h.elim
theorem CT.Ok.int {q : IntKind} {v : Value} (h : (CT.int q).Ok v) : ∃ n, v = .int q n ∧ (Lit.int q n).wf = true := h
theorem CT.Ok.bool {v : Value} (h : CT.bool.Ok v) : ∃ b, v = .bool b := h
theorem CT.Ok.str {v : Value} (h : CT.str.Ok v) : ∃ s : ByteArray, v = .string s ∧ s.size ≤ maxLen := h
/-- a struct's cells, in their order -/
theorem oks_agg {l : List CT} {cs : Array Value} (h : Oks l (Value.agg cs).cells.toList) : ∃ vs : List Value, cs = vs.toArray ∧ Oks l vs := ⟨cs.toList, by simp, by simpa [Value.cells] using h⟩
theorem Oks.append : ∀ {l m : List CT} {vs ws : List Value}, Oks l vs → Oks m ws → Oks (l ++ m) (vs ++ ws)
  | [], _, [], _, _, h => h
  | [], _, _ :: _, _, h, _ => h.elim
  | _ :: _, _, [], _, h, _ => h.elim
  | _ :: _, _, _ :: _, _, h, k => ⟨h.1, Oks.append h.2 k⟩

def flatFs (P : Program) (g : TypeId → Option (List CT)) : List Field → Nat → Option (List CT)
  | [], _ => some []
  | f :: r, o => if f.offset = o then (g f.type).bind fun l => if P.cellsOf f.type = l.length then (flatFs P g r (o + l.length)).map (l ++ ·) else none else none
def flatTy (P : Program) : Nat → TypeId → Option (List CT)
  | 0, _ => none
  | n + 1, t => match P.underlying t with
    | some .bool => some [.bool]
    | some (.int q) => some [.int q]
    | some .string => some [.str]
    | some (.struct fs) => (flatFs P (flatTy P n) fs.toList 0).bind fun l => if P.cellsOf t = l.length then some l else none
    | _ => none

section
variable {H : Type} {enc : TypeId × Value → H} {P : Program} {w : World} {base : Nat} {spare : Nat → Bool} {held : Bool}

theorem oks_fields {X : Type} {g : TypeId → Option (List CT)} {tr : TypeId → List Value → Option X} (hg : ∀ t cs l y, g t = some l → tr t cs = some y → Oks l cs) :
    ∀ (fs : List Field) (o : Nat) (l : List CT) (xs : List X) (cs : List Value), flatFs P g fs o = some l →
      fs.mapM (fun f => tr f.type ((cs.drop f.offset).take (P.cellsOf f.type))) = some xs → Oks l ((cs.drop o).take l.length)
  | [], _, l, _, _, h, _ => by
    simp only [flatFs, Option.some.injEq] at h; subst h; simp [Oks]
  | f :: r, o, l, xs, cs, h, hm => by
    unfold flatFs at h
    split at h
    · rename_i ho
      obtain ⟨l1, h1, h2⟩ := Option.bind_eq_some_iff.1 h
      split at h2
      · rename_i hc
        obtain ⟨l2, h3, rfl⟩ := Option.map_eq_some_iff.1 h2
        rw [List.mapM_cons] at hm
        obtain ⟨y, hy, hm2⟩ := Option.bind_eq_some_iff.1 hm
        obtain ⟨ys, hys, _⟩ := Option.bind_eq_some_iff.1 hm2
        have k1 := hg _ _ _ _ h1 hy
        rw [ho, hc] at k1
        have k2 := oks_fields hg r (o + l1.length) l2 ys cs h3 hys
        have := k1.append k2
        rw [List.length_append, List.take_add, List.drop_drop]
        exact this
      · cases h2
    · cases h
theorem oks_of_trod : ∀ (n fuel : Nat) (t : TypeId) (cs : List Value) (l : List CT) (y : DataW H × List MemPlace), flatTy P n t = some l → DataW.trod enc P w base spare held fuel t cs = some y → Oks l cs
  | 0, _, _, _, _, _, h, _ => by cases h
  | _ + 1, 0, _, _, _, _, _, h => by cases h
  | n + 1, fuel + 1, t, cs, l, y, hl, h => by
    unfold flatTy at hl
    unfold DataW.trod at h
    cases hu : P.underlying t with
    | none => rw [hu] at hl; cases hl
    | some d =>
      rw [hu] at hl h
      cases d with
      | bool =>
        cases hl
        split at h <;> first | (rename_i e; cases e) | skip
        all_goals first | exact ⟨⟨_, rfl⟩, trivial⟩ | (cases h)
      | int q =>
        cases hl
        split at h <;> first | (rename_i e; cases e) | skip
        all_goals first
          | (split at h
             · rename_i hc; obtain ⟨rfl, hw⟩ := hc; exact ⟨⟨_, rfl, hw⟩, trivial⟩
             · cases h)
          | (cases h)
      | string =>
        cases hl
        split at h <;> first | (rename_i e; cases e) | skip
        all_goals first
          | (split at h
             · rename_i hc; exact ⟨⟨_, rfl, hc⟩, trivial⟩
             · cases h)
          | (cases h)
      | struct fs =>
        obtain ⟨l1, h1, h2⟩ := Option.bind_eq_some_iff.1 hl
        split at h2
        · rename_i hc
          cases h2
          have h' : (if cs.length = P.cellsOf t then (fs.toList.mapM fun f => DataW.trod enc P w base spare held fuel f.type ((cs.drop f.offset).take (P.cellsOf f.type))).map fun xs => (DataW.agg (xs.map (·.1)), xs.flatMap (·.2)) else none) = some y := by
            split at h <;> first | exact h | (rename_i e; cases e; exact h) | (rename_i e; cases e)
          split at h'
          · rename_i hlen
            obtain ⟨xs, hxs, _⟩ := Option.map_eq_some_iff.1 h'
            have := oks_fields (P := P) (fun t cs l y => oks_of_trod n fuel t cs l y) fs.toList 0 l xs cs h1 hxs
            rw [List.drop_zero, ← hc, ← hlen, List.take_length] at this
            exact this
          · cases h'
        · cases h2
      | _ => cases hl
theorem oks_of_Trod {n : Nat} {t : TypeId} {v : Value} {d : DataW H} {ps : List MemPlace} {l : List CT} (hl : flatTy P n t = some l) (h : DataW.Trod enc P w base spare held t v d ps) : Oks l v.cells.toList :=
  let ⟨_, hf⟩ := h; oks_of_trod n _ t _ l _ hl hf
/-- a slice of such elements: nil, or its cells read row by row -/
theorem rows_of_Trod {n : Nat} {t e : TypeId} {a0 : Option Addr} {len cap : Nat} {d : DataW H} {ps : List MemPlace} {l : List CT} (ht : P.underlying t = some (.slice e)) (hl : flatTy P n e = some l) (hc : P.cellsOf e = l.length)
    (h : DataW.Trod enc P w base spare held t (.slice a0 len cap) d ps) :
    (a0 = none ∧ len = 0 ∧ cap = 0) ∨ ∃ a, a0 = some a ∧ len ≤ cap ∧ cap ≤ maxLen ∧ ∃ rows : List (List Value), rows.length = len ∧ (∀ r ∈ rows, Oks l r) ∧
      (∀ i r, rows[i]? = some r → ∀ j v, r[j]? = some v → w.cell? (a.add (i * l.length + j)) = some v) ∧ ∃ es sp, d = .slice es sp ∧ es.length = len := by
  obtain ⟨fuel, hf⟩ := h
  rcases Deep.open_slice ht hf with ⟨hcs, _⟩ | ⟨a, len', cap', m, n', D, Pl, hcs, _, h1, h2, h3, hx, hel⟩
  · left; simp [Value.cells] at hcs; exact hcs
  · right
    simp [Value.cells] at hcs
    obtain ⟨rfl, rfl, rfl⟩ := hcs
    have hm : len ≤ m := by rw [h3]; split <;> omega
    obtain ⟨R, hR⟩ := Deep.choose_lt (α := List Value) (p := fun i cs' => w.cells? base (a.add (i * P.cellsOf e)) (P.cellsOf e) = some cs' ∧ DataW.trod enc P w base spare held n' e cs' = some (D i, Pl i)) (n := m) hel
    refine ⟨a, rfl, h1, h2, (List.range len).map R, by simp, ?_, ?_, _, _, congrArg Prod.fst hx, by simp⟩
    · intro r hr
      obtain ⟨i, hi, rfl⟩ := List.mem_map.1 hr
      exact oks_of_trod n _ e _ l _ hl (hR i (Nat.lt_of_lt_of_le (List.mem_range.1 hi) hm)).2
    · intro i r hir j v hjv
      have hi : i < len := by
        have := (List.getElem?_eq_some_iff.1 hir).1; simpa using this
      have hr : r = R i := by simpa [hi] using hir.symm
      subst hr
      have hcell := (hR i (by omega)).1
      obtain ⟨_, hlen, hall⟩ := World.cells?_some hcell
      have hj : j < (R i).length := (List.getElem?_eq_some_iff.1 hjv).1
      have := (hall j (hlen ▸ hj)).trans hjv
      rw [hc, Addr.add_add] at this
      exact this
end
end Go.Proofs.Ytfhfkfnffajciaa
