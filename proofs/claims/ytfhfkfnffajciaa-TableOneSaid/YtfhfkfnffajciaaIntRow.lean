/- Rows of ints that are owned: what slices.Contains, Index, Clone and Delete do with them. -/
import Derived.Test.YtfhfkfnffajciaaRow
import Derived.Test.YtfhfkfnffajciaaShelf
import Derived.Laws.IdiomCopy
namespace Go.Proofs
open Go.RowKit Go.Proofs.Ytfhfkfnffajciaa
namespace Ytfhfkfnffajciaa
set_option linter.unusedSectionVars false
variable {w0 w w' : World} {L : List Asn} {v v' : Value} {xs ys : List Int} {e : TypeId} {size n m : Nat} {cs vs : List Value} {T : TypeId} {b : Nat}

/-- a row that was made apart -/
theorem St.newRow {zs : List Value} (s : St w0 w L) (hb : Below w.heap.size w w') (ho : w'.ownsRow w.heap.size e size v' m zs) : St w0 w' (rowA e size v' m zs :: L) := by
  obtain ⟨hb0, h, r, i, d⟩ := s
  have hlt : ∀ k x, h k = some x → k < w.heap.size := fun k x e => (Array.getElem?_eq_some_iff.1 (i k x e)).1
  have hbel : Below w0.heap.size w0 w' := hb0.trans (hb.mono hb0.size)
  have i' : ∀ k x, h k = some x → w'.heap[k]? = some x := fun k x e => by rw [hb.block k (hlt k x e)]; exact i k x e
  have ho' : w'.ownsRow w0.heap.size e size v' m zs := by
    obtain ⟨h1, h2⟩ := ho
    refine ⟨h1, h2.imp id ?_⟩
    rintro ⟨g, cap, cur, a1, a2, a3⟩
    exact ⟨g, cap, cur, a1, Nat.le_trans hb0.size a2, a3⟩
  refine St.retakeRow hbel r i' d ho' (fun b hb' => ?_)
  rcases ho with ⟨_, ⟨rfl, _⟩ | ⟨g, cap, cur, rfl, a2, _⟩⟩
  · cases hb'
  · cases hb'
    cases hx : h g with
    | none => rfl
    | some x => have := hlt _ _ hx; omega
theorem cells_at {x : List Int} {sp : List Value} {g : Nat} (s : St w0 w (cells g (x.map (Value.int .i64) ++ sp) T :: L)) :
    (∀ j, j < x.length → w.cell? ⟨g, 0 + j, none⟩ = some (.int .i64 (x.getD j 0))) := fun j hj => by
  rw [Nat.zero_add, s.cell, List.getElem?_append_left (by simpa using hj)]
  simp [hj]
theorem St.contains (s : St w0 w (rowA e 1 v xs.length (xs.map (Value.int .i64)) :: L)) (c : Int) :
    Calls Try.prog 90 #[v, .int .i64 c] w fun e w' => e = .returned (.bool (xs.contains c)) ∧ w' = w := by
  rcases s.rowOpen with ⟨rfl, hn, _, _⟩ | ⟨g, cap, sp, rfl, h1, h2, h3, h4, s⟩
  · obtain rfl := List.eq_nil_of_length_eq_zero hn
    exact Try.slices_Contains_int_empty none 0 c w
  · have := Try.slices_Contains_int g 0 xs.length cap xs c w (Nat.le_refl _) (by unfold maxLen at h3; omega) (cells_at s)
    rw [List.take_length] at this
    exact this
theorem St.index (s : St w0 w (rowA e 1 v xs.length (xs.map (Value.int .i64)) :: L)) (c : Int) :
    Calls Try.prog 69 #[v, .int .i64 c] w fun e w' => e = .returned (.int .i64 (Lib.idxOf xs c)) ∧ w' = w := by
  rcases s.rowOpen with ⟨rfl, hn, _, _⟩ | ⟨g, cap, sp, rfl, h1, h2, h3, h4, s⟩
  · obtain rfl := List.eq_nil_of_length_eq_zero hn
    exact Try.slices_Index_int_empty none 0 c w
  · have := Try.slices_Index_int g 0 xs.length cap xs c w (Nat.le_refl _) (by unfold maxLen at h3; omega) (cells_at s)
    rw [List.take_length] at this
    exact this
theorem St.clone (s : St w0 w (rowA e 1 v xs.length (xs.map (Value.int .i64)) :: L)) (hbig : xs.length * 8 ≤ 140737488355328) :
    Calls Try.prog 75 #[v] w fun e' w' => ∃ v', e' = .returned v' ∧ Below w.heap.size w w' ∧
      (∀ {w1 : World} {M : List Asn}, St w1 w M → St w1 w' (rowA 3 1 v' xs.length (xs.map (Value.int .i64)) :: M)) := by
  rcases s.rowOpen with ⟨rfl, hn, _, _⟩ | ⟨g, cap, sp, rfl, h1, h2, h3, h4, s⟩
  · obtain rfl := List.eq_nil_of_length_eq_zero hn
    refine (Try.slices_Clone_int_nil 0 0 w).mono ?_
    rintro e' w' ⟨rfl, rfl⟩
    exact ⟨_, rfl, Below.refl _ _, fun s => s.rowNil⟩
  · refine (Try.slices_Clone_int g 0 xs.length cap xs w (Nat.le_refl _) hbig (cells_at s)).mono ?_
    rintro e' w' ⟨v', rfl, ho, _, hb⟩
    rw [List.take_length] at ho
    exact ⟨_, rfl, hb, fun s => s.newRow hb ho⟩
theorem set_mid {α : Type} (p q : List α) (x y : α) : (p ++ x :: q).set p.length y = p ++ y :: q := by
  induction p with
  | nil => rfl
  | cons z p ih => simp [ih]
theorem St.setCells : ∀ (vs : List Value) (p q r : List Value) (w : World), q.length = vs.length → St w0 w (cells b (p ++ q ++ r) T :: L) → St w0 (w.setCells b p.length vs) (cells b (p ++ vs ++ r) T :: L)
  | [], p, q, r, w, h, s => by
    obtain rfl := List.eq_nil_of_length_eq_zero h
    exact s
  | v :: vs, p, [], r, w, h, s => by simp at h
  | v :: vs, p, x :: q, r, w, h, s => by
    have s1 := s.setCell p.length v
    rw [List.append_assoc, List.cons_append, set_mid] at s1
    have s2 : St w0 (w.setCell ⟨b, p.length, none⟩ v) (cells b ((p ++ [v]) ++ q ++ r) T :: L) := by simpa using s1
    have := St.setCells vs (p ++ [v]) q r _ (by simpa using h) s2
    simpa [World.setCells] using this
theorem St.delete (s : St w0 w (rowA e 1 v xs.length (xs.map (Value.int .i64)) :: L)) (i : Nat) (hi : i < xs.length) :
    Calls Try.prog 70 #[v, .int .i64 i, .int .i64 (i + 1)] w fun e' w' => ∃ v', e' = .returned v' ∧
      St w0 w' (rowA e 1 v' (xs.eraseIdx i).length ((xs.eraseIdx i).map (Value.int .i64)) :: L) := by
  rcases s.rowOpen with ⟨rfl, hn, _, _⟩ | ⟨g, cap, sp, rfl, h1, h2, h3, h4, s⟩
  · omega
  · have hd := Try.slices_Delete_int_cells g 0 xs.length cap i (i + 1) xs w (Nat.le_refl _) h2 (by unfold maxLen at h3; omega) (by omega) (by omega) (cells_at s) (fun j hj => by rw [Nat.zero_add]; exact s.free j)
    rw [show ((i : Int) + 1) = ((i + 1 : Nat) : Int) by omega]
    refine hd.mono ?_
    rintro e' w' ⟨rfl, q, rfl⟩
    refine ⟨_, rfl, ?_⟩
    have hl : (xs.eraseIdx i).length = xs.length - 1 := by simp [List.length_eraseIdx, hi]
    have hx : (xs.take xs.length).take i ++ (xs.take xs.length).drop (i + 1) = xs.eraseIdx i := by rw [List.take_length, ← List.eraseIdx_eq_take_drop_succ]
    have s2 := St.setCells (w := w.drewN q) (((xs.eraseIdx i) ++ List.replicate (i + 1 - i) 0).map (Value.int .i64)) [] (xs.map (Value.int .i64)) sp (by simp [hl]; omega) (by simpa using s.drewN q)
    rw [hx]
    rw [List.nil_append, List.map_append, List.append_assoc] at s2
    have e1 : xs.length - (i + 1 - i) = (xs.eraseIdx i).length := by omega
    rw [e1, List.map_append]
    refine St.rowMk s2 (by simp) (by omega) h3 ?_
    have h5 : sp.length + xs.length = cap := by simpa [Nat.add_comm] using h4
    simp [hl]; omega
end Ytfhfkfnffajciaa
end Go.Proofs
