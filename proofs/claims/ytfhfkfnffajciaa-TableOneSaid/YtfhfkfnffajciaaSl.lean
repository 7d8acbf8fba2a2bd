/- A small separation logic over the model's worlds: assertions on parts of the heap, and a state that frames the rest. -/
import Derived.WalkKit
import Derived.Below
import Derived.Deep.QuietTactic
import Derived.BigQuiet
import Derived.WalkSpells
import Derived.Carry
import Derived.Lib.Hide
import Derived.StillTailTactics
import Derived.RegionTactic
import Derived.Deep.RegionHeld3
namespace Go.Proofs.Ytfhfkfnffajciaa
open Go.RowKit

/-- a part of a heap -/
abbrev Frag := Nat → Option Obj
abbrev Asn := Frag → Prop

def Frag.un (h k : Frag) : Frag := fun b => match h b with | some o => some o | none => k b
def Disj (h k : Frag) : Prop := ∀ b, h b = none ∨ k b = none
def Frag.none : Frag := fun _ => Option.none
def emp : Asn := fun h => h = Frag.none
def star (A B : Asn) : Asn := fun h => ∃ h1 h2, Disj h1 h2 ∧ A h1 ∧ B h2 ∧ h = h1.un h2
def Star : List Asn → Asn
  | [] => emp
  | A :: L => star A (Star L)
def obj (b : Nat) (o : Obj) : Asn := fun h => h = fun k => if k = b then some o else Option.none
def exA {α : Type} (A : α → Asn) : Asn := fun h => ∃ x, A x h
def pureA (p : Prop) : Asn := fun h => p ∧ h = Frag.none
def cells (b : Nat) (cs : List Value) (T : TypeId) : Asn := obj b (.cells cs.toArray T (0, 0))

theorem Disj.symm {h k : Frag} (d : Disj h k) : Disj k h := fun b => (d b).symm
theorem un_comm {h k : Frag} (d : Disj h k) : h.un k = k.un h := by
  funext b
  rcases d b with e | e <;> simp only [Frag.un, e] <;> cases (h b) <;> cases (k b) <;> rfl
theorem un_assoc (h k l : Frag) : (h.un k).un l = h.un (k.un l) := by
  funext b
  simp only [Frag.un]; cases h b <;> rfl
theorem un_none (h : Frag) : h.un Frag.none = h := by
  funext b; simp only [Frag.un, Frag.none]; cases h b <;> rfl
theorem none_un (h : Frag) : Frag.none.un h = h := by funext b; rfl
theorem disj_none (h : Frag) : Disj h Frag.none := fun _ => .inr rfl
theorem disj_un_left {h k l : Frag} : Disj (h.un k) l ↔ Disj h l ∧ Disj k l := by
  constructor
  · intro d
    refine ⟨fun b => ?_, fun b => ?_⟩
    · rcases d b with e | e
      · left; simp only [Frag.un] at e; cases hb : h b with | none => rfl | some o => simp [hb] at e
      · exact .inr e
    · rcases d b with e | e
      · left; simp only [Frag.un] at e; cases hb : h b with | none => simpa [hb] using e | some o => simp [hb] at e
      · exact .inr e
  · rintro ⟨d1, d2⟩ b
    rcases d1 b with e | e
    · rcases d2 b with e' | e'
      · left; simp [Frag.un, e, e']
      · exact .inr e'
    · exact .inr e
theorem disj_un_right {h k l : Frag} : Disj l (h.un k) ↔ Disj l h ∧ Disj l k :=
  ⟨fun d => let ⟨a, b⟩ := disj_un_left.1 d.symm; ⟨a.symm, b.symm⟩, fun ⟨a, b⟩ => (disj_un_left.2 ⟨a.symm, b.symm⟩).symm⟩

theorem star_comm {A B : Asn} {h : Frag} (s : star A B h) : star B A h :=
  let ⟨h1, h2, d, a, b, e⟩ := s; ⟨h2, h1, d.symm, b, a, e.trans (un_comm d)⟩
theorem star_assoc {A B C : Asn} {h : Frag} (s : star (star A B) C h) : star A (star B C) h := by
  obtain ⟨h12, h3, d, ⟨h1, h2, d12, a, b, rfl⟩, c, rfl⟩ := s
  obtain ⟨d1, d2⟩ := disj_un_left.1 d
  exact ⟨h1, h2.un h3, disj_un_right.2 ⟨d12, d1⟩, a, ⟨h2, h3, d2, b, c, rfl⟩, un_assoc _ _ _⟩
theorem star_assoc' {A B C : Asn} {h : Frag} (s : star A (star B C) h) : star (star A B) C h :=
  star_comm (star_assoc (star_comm (star_assoc (star_comm s))))
theorem star_mono {A A' B B' : Asn} (ha : ∀ h, A h → A' h) (hb : ∀ h, B h → B' h) {h : Frag} (s : star A B h) : star A' B' h :=
  let ⟨h1, h2, d, a, b, e⟩ := s; ⟨h1, h2, d, ha _ a, hb _ b, e⟩
theorem star_swap {A B C : Asn} {h : Frag} (s : star A (star B C) h) : star B (star A C) h :=
  star_assoc (star_mono (fun _ x => star_comm x) (fun _ x => x) (star_assoc' s))
theorem Star_perm {L M : List Asn} (p : L.Perm M) : ∀ {h : Frag}, Star L h → Star M h := by
  induction p with
  | nil => exact fun s => s
  | cons A _ ih => exact fun s => star_mono (fun _ x => x) (fun _ => ih) s
  | swap A B L => exact fun s => star_swap s
  | trans _ _ ih1 ih2 => exact fun s => ih2 (ih1 s)
theorem star_emp {A : Asn} {h : Frag} : star A emp h ↔ A h := by
  constructor
  · rintro ⟨h1, h2, _, a, rfl, rfl⟩; rw [un_none]; exact a
  · intro a; exact ⟨h, Frag.none, disj_none _, a, rfl, (un_none h).symm⟩
theorem Star_append (L M : List Asn) : ∀ {h : Frag}, Star (L ++ M) h ↔ star (Star L) (Star M) h := by
  induction L with
  | nil => intro h; exact ⟨fun s => star_comm (star_emp.2 s), fun s => star_emp.1 (star_comm s)⟩
  | cons A L ih =>
    intro h
    exact ⟨fun s => star_assoc' (star_mono (fun _ x => x) (fun _ => ih.1) s), fun s => star_mono (fun _ x => x) (fun _ => ih.2) (star_assoc s)⟩

/-- the state: a world in which the assertions hold of parts of their own, all of them above what the reference world has, which is as it was -/
structure St (w0 : World) (w : World) (L : List Asn) : Prop where
  below : Below w0.heap.size w0 w
  frag : ∃ h, Star L h ∧ (∀ b o, h b = some o → w.heap[b]? = some o) ∧ ∀ b, b < w0.heap.size → h b = Option.none

theorem St.init (w : World) : St w w [] := ⟨Below.refl _ _, Frag.none, rfl, fun _ _ e => by simp [Frag.none] at e, fun _ _ => rfl⟩
theorem St.perm {w0 w : World} {L M : List Asn} (s : St w0 w L) (p : L.Perm M) : St w0 w M :=
  let ⟨hb, h, a, i, d⟩ := s; ⟨hb, h, Star_perm p a, i, d⟩
theorem St.mono {w0 w : World} {A B : Asn} {L : List Asn} (s : St w0 w (A :: L)) (f : ∀ h, A h → B h) : St w0 w (B :: L) :=
  let ⟨hb, h, a, i, d⟩ := s; ⟨hb, h, star_mono f (fun _ x => x) a, i, d⟩
theorem St.ex {α : Type} {w0 w : World} {A : α → Asn} {L : List Asn} : St w0 w (exA A :: L) ↔ ∃ x, St w0 w (A x :: L) := by
  constructor
  · rintro ⟨hb, h, ⟨h1, h2, dd, ⟨x, a⟩, r, e⟩, i, d⟩; exact ⟨x, hb, h, ⟨h1, h2, dd, a, r, e⟩, i, d⟩
  · rintro ⟨x, s⟩; exact s.mono fun _ a => ⟨x, a⟩
theorem St.pure {w0 w : World} {p : Prop} {L : List Asn} : St w0 w (pureA p :: L) ↔ p ∧ St w0 w L := by
  constructor
  · rintro ⟨hb, h, ⟨h1, h2, dd, ⟨hp, rfl⟩, r, rfl⟩, i, d⟩
    rw [none_un] at i d
    exact ⟨hp, hb, h2, r, i, d⟩
  · rintro ⟨hp, hb, h, r, i, d⟩
    exact ⟨hb, h, ⟨Frag.none, h, (disj_none _).symm, ⟨hp, rfl⟩, r, (none_un h).symm⟩, i, d⟩
theorem St.flat {w0 w : World} {A B : Asn} {L : List Asn} : St w0 w (star A B :: L) ↔ St w0 w (A :: B :: L) :=
  ⟨fun ⟨hb, h, a, i, d⟩ => ⟨hb, h, star_assoc a, i, d⟩, fun ⟨hb, h, a, i, d⟩ => ⟨hb, h, star_assoc' a, i, d⟩⟩
theorem St.many {w0 w : World} {M L : List Asn} : St w0 w (Star M :: L) ↔ St w0 w (M ++ L) :=
  ⟨fun ⟨hb, h, a, i, d⟩ => ⟨hb, h, (Star_append M L).2 a, i, d⟩, fun ⟨hb, h, a, i, d⟩ => ⟨hb, h, (Star_append M L).1 a, i, d⟩⟩
/-- one more in a row of many -/
theorem St.snoc {w0 w : World} {A : List Asn} {B : Asn} {L : List Asn} (s : St w0 w (Star A :: B :: L)) : St w0 w (Star (A ++ [B]) :: L) := by
  have := St.many.1 s
  exact St.many.2 (by rw [List.append_assoc]; exact this)
/-- what is not wanted any more -/
theorem St.drop {w0 w : World} {A : Asn} {L : List Asn} (s : St w0 w (A :: L)) : St w0 w L := by
  obtain ⟨hb, h, ⟨h1, h2, dd, _, r, rfl⟩, i, d⟩ := s
  refine ⟨hb, h2, r, fun b o e => i b o ?_, fun b hlt => ?_⟩
  · rcases dd b with e1 | e1
    · simp [Frag.un, e1, e]
    · rw [e1] at e; cases e
  · have := d b hlt
    rcases dd b with e1 | e1
    · simpa [Frag.un, e1] using this
    · exact e1
theorem St.obj_at {w0 w : World} {b : Nat} {o : Obj} {L : List Asn} (s : St w0 w (obj b o :: L)) : w.heap[b]? = some o ∧ w0.heap.size ≤ b := by
  obtain ⟨hb, h, ⟨h1, h2, dd, rfl, r, rfl⟩, i, d⟩ := s
  refine ⟨i b o (by simp [Frag.un]), ?_⟩
  rcases Nat.lt_or_ge b w0.heap.size with hlt | hge
  · have := d b hlt; simp [Frag.un] at this
  · exact hge
/-- a block of the first assertion is written: all others stay -/
theorem St.put {w0 w w' : World} {b : Nat} {o o' : Obj} {L : List Asn} (s : St w0 w (obj b o :: L)) (h' : w'.heap[b]? = some o')
    (hk : ∀ k, k ≠ b → w'.heap[k]? = w.heap[k]?) (hs : w.heap.size ≤ w'.heap.size) (ho : w'.os = w.os) (ht : w'.tape = w.tape) (hu : w'.output = w.output) : St w0 w' (obj b o' :: L) := by
  have hge := s.obj_at.2
  obtain ⟨hb, h, ⟨h1, h2, dd, rfl, r, rfl⟩, i, d⟩ := s
  refine ⟨⟨ho.trans hb.os, ht.trans hb.tape, hu.trans hb.output, Nat.le_trans hb.size hs, fun k hlt => (hk k (by omega)).trans (hb.block k hlt)⟩,
    Frag.un (fun k => if k = b then some o' else Option.none) h2, ⟨_, h2, fun k => ?_, rfl, r, rfl⟩, fun k x e => ?_, fun k hlt => ?_⟩
  · rcases dd k with e | e
    · left; by_cases hkb : k = b
      · simp [hkb] at e
      · simp [hkb]
    · exact .inr e
  · by_cases hkb : k = b
    · subst hkb; simp [Frag.un] at e; subst e; exact h'
    · have e2 : h2 k = some x := by simpa [Frag.un, hkb] using e
      rw [hk k hkb]; exact i k x (by simp [Frag.un, hkb, e2])
  · have hkb : k ≠ b := by omega
    have := d k hlt
    simpa [Frag.un, hkb] using this
/-- blocks are added, none is written -/
theorem St.ext {w0 w w' : World} {L : List Asn} (s : St w0 w L) (hb' : Below w.heap.size w w') : St w0 w' L := by
  obtain ⟨hb, h, r, i, d⟩ := s
  refine ⟨hb.trans (hb'.mono hb.size), h, r, fun b o e => ?_, d⟩
  have := i b o e
  rw [hb'.block b (Array.getElem?_eq_some_iff.1 this).1]; exact this
theorem St.drew {w0 w : World} {L : List Asn} (s : St w0 w L) : St w0 w.drew L := s.ext ((Below.refl _ _).drew)
theorem St.alloc {w0 w : World} {L : List Asn} (s : St w0 w L) (o : Obj) : St w0 (w.alloc o) (obj w.heap.size o :: L) := by
  have s' := s.ext (w' := w.alloc o) ((Below.refl _ _).alloc (Nat.le_refl _) o)
  obtain ⟨hb0, h0, r0, i0, d0⟩ := s
  obtain ⟨hb, _⟩ := s'
  have hsz := hb0.size
  refine ⟨hb, Frag.un (fun k => if k = w.heap.size then some o else Option.none) h0, ⟨_, h0, fun k => ?_, rfl, r0, rfl⟩, fun k x e => ?_, fun k hlt => ?_⟩
  · by_cases hk : k = w.heap.size
    · right
      cases hx : h0 k with
      | none => rfl
      | some x => have := (Array.getElem?_eq_some_iff.1 (i0 k x hx)).1; omega
    · left; simp [hk]
  · by_cases hk : k = w.heap.size
    · subst hk; simp [Frag.un] at e; subst e; exact heap_alloc_new w o
    · have e2 : h0 k = some x := by simpa [Frag.un, hk] using e
      have := i0 k x e2
      rw [Below.heap_alloc w o k (Array.getElem?_eq_some_iff.1 this).1]; exact this
  · have hk : k ≠ w.heap.size := by omega
    simp [Frag.un, hk, d0 k hlt]
/-- two blocks that are owned apart are two -/
theorem St.ne {w0 w : World} {b c : Nat} {o p : Obj} {L : List Asn} (s : St w0 w (obj b o :: obj c p :: L)) : b ≠ c := by
  obtain ⟨_, h, ⟨h1, h2, dd, rfl, ⟨h3, h4, d2, rfl, _, rfl⟩, rfl⟩, _, _⟩ := s
  intro e
  subst e
  rcases dd b with e | e
  · simp at e
  · simp [Frag.un] at e
/-- the i-th assertion comes to the front -/
theorem perm_pick {α : Type} : ∀ (L : List α) (i : Nat) (h : i < L.length), L.Perm (L[i] :: L.eraseIdx i)
  | A :: L, 0, _ => .refl _
  | A :: L, i + 1, h => ((perm_pick L i (by simpa using h)).cons A).trans (.swap _ _ _)
theorem St.pick {w0 w : World} {L : List Asn} (s : St w0 w L) (i : Nat) (h : i < L.length) : St w0 w (L[i] :: L.eraseIdx i) := s.perm (perm_pick L i h)
theorem St.swap {w0 w : World} {A B : Asn} {L : List Asn} (s : St w0 w (A :: B :: L)) : St w0 w (B :: A :: L) := s.perm (.swap _ _ _)
theorem St.rot3 {w0 w : World} {A B C : Asn} {L : List Asn} (s : St w0 w (A :: B :: C :: L)) : St w0 w (C :: A :: B :: L) :=
  s.perm (((List.Perm.swap C B L).cons A).trans (.swap _ _ _))

theorem filterMap_range {α : Type} (M : List α) : ∀ n, (List.range n).filterMap (fun i => M[i]?) = M.take n
  | 0 => rfl
  | n + 1 => by
    rw [List.range_succ, List.filterMap_append, filterMap_range M n, List.take_add_one]
    congr 1
/-- the first ones in another order: 'σ' tells which comes first, and so on -/
def sorted {α : Type} (M : List α) (σ : List Nat) : List α := σ.filterMap (fun i => M[i]?) ++ M.drop σ.length
theorem perm_sorted {α : Type} (M : List α) (σ : List Nat) (h : σ.isPerm (List.range σ.length) = true) : M.Perm (sorted M σ) := by
  have h' := List.isPerm_iff.1 h
  have := (h'.filterMap (fun i => M[i]?)).symm
  rw [filterMap_range] at this
  refine List.Perm.trans ?_ (this.append_right _)
  rw [List.take_append_drop]
theorem St.sort {w0 w : World} {M : List Asn} (s : St w0 w M) (σ : List Nat) (h : σ.isPerm (List.range σ.length) = true) : St w0 w (sorted M σ) := s.perm (perm_sorted M σ h)

/-- only the first ones -/
theorem St.front {w0 w : World} {M : List Asn} (n : Nat) (s : St w0 w M) : St w0 w (M.take n) := by
  have h : St w0 w (M.drop n ++ M.take n) := s.perm (by rw [List.perm_comm]; exact (List.perm_append_comm).trans (by rw [List.take_append_drop]))
  generalize M.drop n = D at h
  induction D with
  | nil => exact h
  | cons A D ih => exact ih h.drop

/-! ### rows of cells -/
theorem St.heap {w0 w : World} {b : Nat} {cs : List Value} {T : TypeId} {L : List Asn} (s : St w0 w (cells b cs T :: L)) : w.heap[b]? = some (.cells cs.toArray T (0, 0)) := s.obj_at.1
theorem St.cell {w0 w : World} {b : Nat} {cs : List Value} {T : TypeId} {L : List Asn} (s : St w0 w (cells b cs T :: L)) : ∀ i, w.cell? ⟨b, i, none⟩ = cs[i]? := fun i => by
  rw [cell_of_row w b i _ T _ s.heap]; simp
theorem St.free {w0 w : World} {b : Nat} {cs : List Value} {T : TypeId} {L : List Asn} (s : St w0 w (cells b cs T :: L)) : ∀ i, w.frozen? ⟨b, i, none⟩ = false := fun i => frozen_of_row w b i _ T s.heap
theorem St.lt {w0 w : World} {b : Nat} {o : Obj} {L : List Asn} (s : St w0 w (obj b o :: L)) : b < w.heap.size := (Array.getElem?_eq_some_iff.1 s.obj_at.1).1
theorem St.setCell {w0 w : World} {b : Nat} {cs : List Value} {T : TypeId} {L : List Asn} (s : St w0 w (cells b cs T :: L)) (i : Nat) (v : Value) :
    St w0 (w.setCell ⟨b, i, none⟩ v) (cells b (cs.set i v) T :: L) := by
  refine St.put s ?_ (fun k hk => Below.heap_setCell _ _ _ _ hk) (by simp) rfl rfl rfl
  rw [heap_setCell_same w b i _ T v s.heap]; simp
theorem St.allocCells {w0 w : World} {L : List Asn} (s : St w0 w L) (cs : List Value) (T : TypeId) : St w0 (w.alloc (.cells cs.toArray T)) (cells w.heap.size cs T :: L) := s.alloc _
/-! ### what the walk knows of blocks -/
@[go_sem] theorem heap_alloc_past (w : World) (o : Obj) (n : Nat) (h : n < w.heap.size) : (w.alloc o).heap[n]? = w.heap[n]? := Below.heap_alloc w o n h
/-- a block is as it was in another world -/
def SameB (b : Nat) (W w : World) : Prop := W.heap[b]? = w.heap[b]?
@[go_sem] theorem sameB_refl (b : Nat) (w : World) : SameB b w w = True := by simp [SameB]
@[go_sem] theorem sameB_drew (b : Nat) (W w : World) : SameB b W.drew w = SameB b W w := by simp [SameB]; rfl
@[go_sem] theorem sameB_drewN (b : Nat) (W w : World) (n : Nat) : SameB b (W.drewN n) w = SameB b W w := by simp [SameB]
@[go_sem] theorem sameB_alloc (b : Nat) (W w : World) (o : Obj) (h : b < W.heap.size) : SameB b (W.alloc o) w = SameB b W w := by simp only [SameB, heap_alloc_past W o b h]
@[go_sem] theorem sameB_setCell (b c i : Nat) (W w : World) (v : Value) (h : b ≠ c) : SameB b (W.setCell ⟨c, i, none⟩ v) w = SameB b W w := by simp only [SameB, Below.heap_setCell W ⟨c, i, none⟩ v b h]
@[go_sem] theorem heap_setCell_ne (w : World) (b i n : Nat) (v : Value) (h : n ≠ b) : (w.setCell ⟨b, i, none⟩ v).heap[n]? = w.heap[n]? := Below.heap_setCell _ _ _ _ h
theorem belDrewN {B : Nat} {a w : World} (h : Below B a w) (n : Nat) : Below B a (w.drewN n) := h.trans ⟨rfl, rfl, rfl, Nat.le_refl _, fun _ _ => rfl⟩
theorem belNew (w : World) (o : Obj) : Below w.heap.size w (w.alloc o) := (Below.refl _ _).alloc (Nat.le_refl _) o
theorem belNewN (w : World) (o : Obj) (n : Nat) : Below w.heap.size w ((w.alloc o).drewN n) := belDrewN (belNew w o) n
theorem St.drewN {w0 w : World} {L : List Asn} (s : St w0 w L) (n : Nat) : St w0 (w.drewN n) L := s.ext ⟨rfl, rfl, rfl, Nat.le_refl _, fun _ _ => rfl⟩
/-- a name for a list of assertions; what it stands for is hidden from the walk -/
theorem named {α : Type} (x : α) : ∃ M, Hid (M = x) := ⟨x, rfl⟩
theorem St.to {w0 w : World} {L M : List Asn} (h : Hid (M = L)) (s : St w0 w L) : St w0 w M := h.out ▸ s
theorem St.of {w0 w : World} {L M : List Asn} (h : Hid (M = L)) (s : St w0 w M) : St w0 w L := h.out ▸ s
theorem St.of1 {w0 w : World} {A : Asn} {L M : List Asn} (h : Hid (M = L)) (s : St w0 w (A :: M)) : St w0 w (A :: L) := h.out ▸ s
theorem St.undrewN {w0 w : World} {L : List Asn} {n : Nat} (s : St w0 (w.drewN n) L) : St w0 w L :=
  s.ext ⟨rfl, rfl, rfl, Nat.le_refl _, fun _ _ => rfl⟩
@[go_sem] theorem St_drewN (w0 w : World) (L : List Asn) (n : Nat) : St w0 (w.drewN n) L = St w0 w L := propext ⟨St.undrewN, fun s => s.drewN n⟩
@[go_sem] theorem St_drew (w0 w : World) (L : List Asn) : St w0 w.drew L = St w0 w L := propext ⟨fun s => s.ext ⟨rfl, rfl, rfl, Nat.le_refl _, fun _ _ => rfl⟩, fun s => s.drew⟩
@[go_sem] theorem St_alloc (w0 w : World) (L : List Asn) (o : Obj) (s : St w0 w L) : St w0 (w.alloc o) L = True := eq_true (s.ext (belNew w o))
end Go.Proofs.Ytfhfkfnffajciaa
