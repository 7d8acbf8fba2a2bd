/- Structs of plain fields: how the model compares them. -/
import Derived.WalkKit
import Derived.Laws.StructEq
namespace Go.Proofs.Ytfhfkfnffajciaa
open Go.RowKit
set_option linter.unusedSectionVars false
set_option linter.unusedSimpArgs false

/-- a cell's type -/
inductive CT where
  | int (q : IntKind) | bool | str
  deriving DecidableEq
def CT.Is : CT → Value → Prop
  | .int q, v => ∃ n, v = .int q n
  | .bool, v => ∃ b, v = .bool b
  | .str, v => ∃ s : ByteArray, v = .string s
def Iss : List CT → List Value → Prop
  | [], [] => True
  | c :: cs, v :: vs => c.Is v ∧ Iss cs vs
  | _, _ => False
def cellEq : Value → Value → Bool
  | .int _ a, .int _ b => decide (a = b)
  | .bool a, .bool b => a == b
  | .string a, .string b => decide (a = b)
  | _, _ => false
def cellsEq : List Value → List Value → Bool
  | [], [] => true
  | x :: xs, y :: ys => cellEq x y && cellsEq xs ys
  | _, _ => false
theorem Iss.length : ∀ {l : List CT} {vs : List Value}, Iss l vs → vs.length = l.length
  | [], [], _ => rfl
  | [], _ :: _, h => h.elim
  | _ :: _, [], h => h.elim
  | _ :: l, _ :: vs, h => by simp [Iss.length (l := l) (vs := vs) h.2]
theorem Iss.split : ∀ {l m : List CT} {vs : List Value}, Iss (l ++ m) vs → Iss l (vs.take l.length) ∧ Iss m (vs.drop l.length)
  | [], _, vs, h => ⟨by simp [Iss], by simpa using h⟩
  | _ :: _, _, [], h => h.elim
  | _ :: l, m, _ :: vs, h => by
    obtain ⟨h1, h2⟩ := Iss.split (l := l) (m := m) (vs := vs) h.2
    exact ⟨⟨h.1, h1⟩, h2⟩
theorem cellsEq_split : ∀ (n : Nat) (xs ys : List Value), n ≤ xs.length → n ≤ ys.length → cellsEq xs ys = (cellsEq (xs.take n) (ys.take n) && cellsEq (xs.drop n) (ys.drop n))
  | 0, _, _, _, _ => by simp [cellsEq]
  | n + 1, [], _, h, _ => by simp at h
  | n + 1, _ :: _, [], _, h => by simp at h
  | n + 1, x :: xs, y :: ys, h1, h2 => by
    simp only [cellsEq, List.take_succ_cons, List.drop_succ_cons, Bool.and_assoc]
    rw [cellsEq_split n xs ys (by simpa using h1) (by simpa using h2)]

def eqFs (P : Program) (g : TypeId → Option (List CT)) : List Field → Option (List CT)
  | [] => some []
  | f :: r => if f.name ≠ "_" then (g f.type).bind fun l => if (P.info? f.type).map (·.size) = some l.length then (eqFs P g r).map (l ++ ·) else none else none
def offs : List Field → List Nat → Nat → Bool
  | [], _, _ => true
  | f :: r, n :: ns, o => f.offset == o && offs r ns (o + n)
  | _ :: _, [], _ => false
def eqTy (P : Program) : Nat → TypeId → Option (List CT)
  | 0, _ => none
  | n + 1, t => match P.underlying t with
    | some .bool => some [.bool]
    | some (.int q) => some [.int q]
    | some .string => some [.str]
    | some (.struct fs) => if P.stoodInHeld t = false ∧ offs fs.toList (fs.toList.map fun f => ((P.info? f.type).map (·.size)).getD 0) 0 = true then eqFs P (eqTy P n) fs.toList else none
    | _ => none
/-- a type's value out of its cells -/
def ofCells (P : Program) (t : TypeId) (cs : List Value) : Value :=
  match P.underlying t with
  | some (.struct _) => .agg cs.toArray
  | _ => cs.headD undef
section
variable {P : Program}

theorem toList_inj' (a b : ByteArray) : (a.toList == b.toList) = decide (a = b) := by
  rw [ByteArray.toList_eq, ByteArray.toList_eq]
  obtain ⟨⟨x⟩⟩ := a
  obtain ⟨⟨y⟩⟩ := b
  rw [Bool.eq_iff_iff]
  simp
theorem run_part (w : World) {n : Nat} {t : TypeId} {l : List CT} (h : eqTy P n t = some l) (hs : (P.info? t).map (·.size) = some l.length) (cs : List Value) (o : Nat) (hl : o + l.length ≤ cs.length) :
    (part t cs.toArray o).run P w = .ok (ofCells P t ((cs.drop o).take l.length)) w := by
  cases n with
  | zero => cases h
  | succ n =>
    obtain ⟨i, hi, hsz⟩ := Option.map_eq_some_iff.1 hs
    unfold eqTy at h
    cases hu : P.underlying t with
    | none => rw [hu] at h; cases h
    | some d =>
      rw [hu] at h
      have one : l.length = 1 → cs[o]? = some (((cs.drop o).take l.length).headD undef) := fun e => by
        rw [e]
        have : o < cs.length := by omega
        rw [List.getElem?_eq_getElem this, List.drop_eq_getElem_cons this]; rfl
      cases d with
      | bool => cases h; simp [part, isAgg, run_underlying hu, ofCells, hu, one rfl]
      | int q => cases h; simp [part, isAgg, run_underlying hu, ofCells, hu, one rfl]
      | string => cases h; simp [part, isAgg, run_underlying hu, ofCells, hu, one rfl]
      | struct fs =>
        simp only [part, isAgg, Sem.run_bind, run_underlying hu, Result.andThen_ok, Sem.run_pure, if_true, sizeOf, typeInfo, run_program, hi, hsz, ofCells, hu]
        congr 2
        apply Array.ext'
        simp [List.take_drop, Nat.add_comm]
      | _ => cases h
theorem eqTy_pos {n : Nat} {t : TypeId} {l : List CT} (h : eqTy P n t = some l) : ∃ m, n = m + 1 := by
  cases n with
  | zero => cases h
  | succ m => exact ⟨m, rfl⟩
theorem run_eqFields (d : Nat) {g : TypeId → Option (List CT)} {n : Nat} (hg : g = eqTy P n)
    (ih : ∀ (t : TypeId) (l : List CT) (xs ys : List Value) (w : World), g t = some l → Iss l xs → Iss l ys → (Op.equalIn d t (ofCells P t xs) (ofCells P t ys)).run P w = .ok (cellsEq xs ys) w) :
    ∀ (fs : List Field) (o : Nat) (l : List CT) (xs ys : List Value) (w : World), eqFs P g fs = some l → offs fs (fs.map fun f => ((P.info? f.type).map (·.size)).getD 0) o = true →
      o ≤ xs.length → o ≤ ys.length → Iss l (xs.drop o) → Iss l (ys.drop o) → (Op.eqFields d xs.toArray ys.toArray fs).run P w = .ok (cellsEq (xs.drop o) (ys.drop o)) w
  | [], o, l, xs, ys, w, h, _, _, _, h1, h2 => by
    simp only [eqFs, Option.some.injEq] at h; subst h
    have e1 := h1.length; have e2 := h2.length
    have z1 : xs.drop o = [] := List.eq_nil_of_length_eq_zero (by simpa using e1)
    have z2 : ys.drop o = [] := List.eq_nil_of_length_eq_zero (by simpa using e2)
    rw [z1, z2]
    simp [Op.eqFields, cellsEq]
  | f :: r, o, l, xs, ys, w, h, ho, ox, oy, h1, h2 => by
    unfold eqFs at h
    split at h
    · rename_i hname
      obtain ⟨l1, hl1, h⟩ := Option.bind_eq_some_iff.1 h
      split at h
      · rename_i hsz
        obtain ⟨l2, hl2, rfl⟩ := Option.map_eq_some_iff.1 h
        simp only [List.map_cons, offs, hsz, Option.getD_some, Bool.and_eq_true, beq_iff_eq] at ho
        obtain ⟨hoff, ho⟩ := ho
        have i1 := h1.split; have i2 := h2.split
        have n1 := h1.length; have n2 := h2.length
        simp only [List.length_drop, List.length_append] at n1 n2
        have p1 := run_part (P := P) w (hg ▸ hl1) hsz xs o (by omega)
        have p2 := run_part (P := P) w (hg ▸ hl1) hsz ys o (by omega)
        have q := ih f.type l1 _ _ w hl1 i1.1 i2.1
        have rr := run_eqFields d hg ih r (o + l1.length) l2 xs ys w hl2 ho (by omega) (by omega) (by rw [← List.drop_drop]; exact i1.2) (by rw [← List.drop_drop]; exact i2.2)
        simp only [Op.eqFields, if_pos hname, Sem.run_bind, hoff, p1, p2, Result.andThen_ok, q]
        rw [cellsEq_split l1.length (xs.drop o) (ys.drop o) (by simp; omega) (by simp; omega)]
        rw [List.drop_drop, List.drop_drop]
        cases hc : cellsEq (List.take l1.length (List.drop o xs)) (List.take l1.length (List.drop o ys)) with
        | false => simp
        | true => simp only [Bool.not_true, Bool.false_eq_true, if_false, Bool.true_and]; exact rr
      · cases h
    · cases h
theorem run_equalIn_flat : ∀ (n d : Nat) (t : TypeId) (l : List CT) (xs ys : List Value) (w : World), n ≤ d → eqTy P n t = some l → Iss l xs → Iss l ys →
    (Op.equalIn d t (ofCells P t xs) (ofCells P t ys)).run P w = .ok (cellsEq xs ys) w
  | 0, _, _, _, _, _, _, _, h, _, _ => by cases h
  | n + 1, 0, _, _, _, _, _, hd, _, _, _ => by omega
  | n + 1, d + 1, t, l, xs, ys, w, hd, h, h1, h2 => by
    unfold eqTy at h
    cases hu : P.underlying t with
    | none => rw [hu] at h; cases h
    | some dd =>
      rw [hu] at h
      cases dd with
      | bool =>
        cases h
        match xs, ys, h1, h2 with
        | [_], [_], ⟨⟨a, rfl⟩, _⟩, ⟨⟨b, rfl⟩, _⟩ => simp [ofCells, hu, run_equalIn_bool' w d t a b hu, cellsEq, cellEq]
      | int q =>
        cases h
        match xs, ys, h1, h2 with
        | [_], [_], ⟨⟨a, rfl⟩, _⟩, ⟨⟨b, rfl⟩, _⟩ =>
          simp only [ofCells, hu, List.headD_cons, run_equalIn_int w d t q q a b hu, cellsEq, cellEq, Bool.and_true]
          congr 1
      | string =>
        cases h
        match xs, ys, h1, h2 with
        | [_], [_], ⟨⟨a, rfl⟩, _⟩, ⟨⟨b, rfl⟩, _⟩ => simp only [ofCells, hu, List.headD_cons, run_equalIn_string w d t a b hu, toList_inj', cellsEq, cellEq, Bool.and_true]
      | struct fs =>
        simp only at h
        split at h
        · rename_i hc
          have hf : P.fieldsOf t = fs := by simp [Program.fieldsOf, hu]
          simp only [ofCells, hu]
          rw [run_equalIn_struct w d t _ _ (by rw [hf]; exact hu) hc.1, hf]
          have := run_eqFields (P := P) d (g := eqTy P n) (n := n) rfl (fun t l xs ys w h h1 h2 => run_equalIn_flat n d t l xs ys w (by omega) h h1 h2) fs.toList 0 l xs ys w h hc.2 (Nat.zero_le _) (Nat.zero_le _) (by simpa using h1) (by simpa using h2)
          simpa using this
        · cases h
      | _ => cases h
/-- '==' and '!=' of two structs of plain fields -/
theorem run_eql_flat {n : Nat} {t : TypeId} {l : List CT} (hn : n ≤ 10000) (h : eqTy P n t = some l) {fs : Array Field} (hu : P.underlying t = some (.struct fs)) {xs ys : List Value} (h1 : Iss l xs) (h2 : Iss l ys) (w : World) :
    (binOp .eql t (.agg xs.toArray) (.agg ys.toArray)).run P w = .ok (.bool (cellsEq xs ys)) w := by
  have := run_equalIn_flat (P := P) n 10000 t l xs ys w hn h h1 h2
  simp only [ofCells, hu] at this
  rw [run_eql_struct, this]; rfl
theorem run_neq_flat {n : Nat} {t : TypeId} {l : List CT} (hn : n ≤ 10000) (h : eqTy P n t = some l) {fs : Array Field} (hu : P.underlying t = some (.struct fs)) {xs ys : List Value} (h1 : Iss l xs) (h2 : Iss l ys) (w : World) :
    (binOp .neq t (.agg xs.toArray) (.agg ys.toArray)).run P w = .ok (.bool (!cellsEq xs ys)) w := by
  have := run_equalIn_flat (P := P) n 10000 t l xs ys w hn h h1 h2
  simp only [ofCells, hu] at this
  rw [run_neq_struct, this]; rfl
end
end Go.Proofs.Ytfhfkfnffajciaa
