/- Tables: one run taken out and put back. -/
import Derived.Test.YtfhfkfnffajciaaRec3
import Derived.Test.YtfhfkfnffajciaaTab1
import Derived.Test.YtfhfkfnffajciaaMap2
namespace Go.Proofs
open Go.RowKit Go.Proofs.Ytfhfkfnffajciaa

namespace Ytfhfkfnffajciaa
section
variable {K V : Type} [DecidableEq K] {enc : K → Value} {venc : V → Value} {w0 w : World} {b : Nat} {m : List (K × V)} {L : List Asn}
/-- what stands at a key is changed -/
def amod (m : List (K × V)) (k : K) (f : V → V) : List (K × V) := m.map fun x => (x.1, if x.1 = k then f x.2 else x.2)
theorem aget_amod (m : List (K × V)) (k k' : K) (f : V → V) : aget (amod m k f) k' = if k' = k then (aget m k').map f else aget m k' := by
  induction m with
  | nil => simp [amod, aget_nil]
  | cons x m ih =>
    simp only [amod, List.map_cons, aget_cons] at ih ⊢
    by_cases h : x.1 = k'
    · simp only [h, if_true]; split <;> simp
    · simp only [h, if_false]; exact ih
theorem akeys_amod (m : List (K × V)) (k : K) (f : V → V) : akeys (amod m k f) = akeys m := by simp [akeys, amod, Function.comp_def]
theorem length_amod (m : List (K × V)) (k : K) (f : V → V) : (amod m k f).length = m.length := by simp [amod]
theorem amod_none (m : List (K × V)) (k : K) (f : V → V) (h : k ∉ akeys m) : amod m k f = m := by
  induction m with
  | nil => rfl
  | cons x m ih =>
    simp only [akeys, List.map_cons, List.mem_cons, not_or] at h
    simp only [amod, List.map_cons] at ih ⊢
    rw [ih h.2, if_neg (fun e => h.1 e.symm)]
theorem amod_mid (p q : List (K × V)) (k : K) (v : V) (f : V → V) (h : k ∉ akeys p) (h2 : k ∉ akeys q) : amod (p ++ (k, v) :: q) k f = p ++ (k, f v) :: q := by
  have e1 := amod_none p k f h
  have e2 := amod_none q k f h2
  simp only [amod, List.map_append, List.map_cons, if_true] at e1 e2 ⊢
  rw [e1, e2]
theorem adel_mid (p q : List (K × V)) (k : K) (v : V) (h : k ∉ akeys p) (h2 : k ∉ akeys q) : adel (p ++ (k, v) :: q) k = p ++ q := by
  have e : ∀ l : List (K × V), k ∉ akeys l → l.filter (fun x => decide (x.1 ≠ k)) = l := fun l hl => by
    rw [List.filter_eq_self]
    intro x hx
    simp only [akeys, List.mem_map, not_exists, not_and] at hl
    simpa using hl x hx
  simp only [adel, List.filter_append, List.filter_cons, ne_eq, not_true_eq_false, decide_false, Bool.false_eq_true, if_false]
  rw [e p h, e q h2]
theorem aget_split {k : K} {v : V} (hn : (akeys m).Nodup) (h : aget m k = some v) : ∃ p q, m = p ++ (k, v) :: q ∧ k ∉ akeys p ∧ k ∉ akeys q := by
  obtain ⟨p, q, rfl⟩ := List.append_of_mem (aget_some h)
  refine ⟨p, q, rfl, ?_, ?_⟩
  all_goals
    simp only [akeys, List.map_append, List.map_cons] at hn
    have := List.nodup_append.1 hn
    intro hk
  · exact this.2.2 k hk k (by simp) rfl
  · exact (List.nodup_cons.1 this.2.1).1 hk
/-- a map's values are seen otherwise, where they are spelled alike -/
theorem St.mapRe (f : K → V → V) (hf : ∀ k v, venc (f k v) = venc v) (s : St w0 w (mapA enc venc b m :: L)) : St w0 w (mapA enc venc b (m.map fun x => (x.1, f x.1 x.2)) :: L) := by
  obtain ⟨es, clock, s', rfl, h1, h2, h3⟩ := s.mapOpen
  refine St.mapShut (es := es.map fun x => (x.1, f x.1 x.2.1, x.2.2)) (clock := clock) ?_ ⟨by simp [Function.comp_def], by simpa [akeys, Function.comp_def] using h1, by simpa [Function.comp_def] using h2, fun x hx => ?_⟩
  · have : (es.map fun x => (x.1, f x.1 x.2.1, x.2.2)).map (ment enc venc) = es.map (ment enc venc) := by simp [ment, hf, Function.comp_def]
    rw [this]; exact s'
  · obtain ⟨y, hy, rfl⟩ := List.mem_map.1 hx
    exact h3 y hy
end

variable {w0 w : World} {L : List Asn} {p q : Nat} {t : Tab} {r : Rec} {n : Int}

theorem Star_mid (A B : List Asn) (X : Asn) (s : St w0 w (Star (A ++ X :: B) :: L)) : St w0 w (X :: Star (A ++ B) :: L) := by
  have s1 := St.many.1 s
  have s2 : St w0 w (X :: (A ++ B ++ L)) := s1.perm (by simp)
  have s3 : St w0 w ((A ++ B) ++ X :: L) := s2.perm (List.perm_middle (a := X) (l₁ := A ++ B) (l₂ := L)).symm
  exact St.swap (St.many.2 s3)
theorem Star_mid' (A B : List Asn) (X : Asn) (s : St w0 w (X :: Star (A ++ B) :: L)) : St w0 w (Star (A ++ X :: B) :: L) := by
  have s1 := St.many.1 s.swap
  exact St.many.2 (s1.perm (by
    have h1 : (A ++ B ++ X :: L).Perm (X :: (A ++ B ++ L)) := List.perm_middle
    have h2 : (A ++ X :: B ++ L).Perm (X :: (A ++ B ++ L)) := by simp
    exact h1.trans h2.symm))

/-- the table with one run apart: what it is put back by -/
def tabRest (p rb cb gb : Nat) (fl bg : Int) (t : Tab) (cur gens : List (Key × Int)) (R : Asn) : List Asn :=
  [cells p [int fl, int bg, .map (some rb), .map (some cb), .map (some gb)] 85, mapA int rptr rb t.runs, mapA Key.enc int cb cur, mapA Key.enc int gb gens, R]
theorem St.tabAt (h : aget t.runs n = some (q, r)) (s : St w0 w (tabA p t :: L)) : ∃ rb cb gb R, St w0 w (recA q r :: (tabRest p rb cb gb t.flight t.begun t t.cur t.gens R ++ L)) ∧
    (∀ {w1 w' : World} (f : Rec → Rec) (cur gens : List (Key × Int)) (M : List Asn), St w1 w' (recA q (f r) :: (tabRest p rb cb gb t.flight t.begun t cur gens R ++ M)) →
      St w1 w' (tabA p { t with runs := amod t.runs n (fun x => (x.1, f x.2)), cur := cur, gens := gens } :: M)) ∧
    (∀ {w1 w' : World} (cur gens : List (Key × Int)) (M : List Asn), St w1 w' (tabRest p rb cb gb t.flight t.begun { t with runs := adel t.runs n } cur gens R ++ M) →
      St w1 w' (tabA p { t with runs := adel t.runs n, cur := cur, gens := gens } :: M)) := by
  obtain ⟨rb, cb, gb, s⟩ := s.tabOpen
  have hnd := (s.sort [1, 0] rfl).nodup
  obtain ⟨l1, l2, e, h1, h2⟩ := aget_split hnd h
  refine ⟨rb, cb, gb, Star ((l1 ++ l2).map fun x => recA x.2.1 x.2.2), ?_, ?_, ?_⟩
  · have s1 := s.sort [4, 0, 1, 2, 3] rfl
    have s2 : St w0 w (Star (l1.map (fun x => recA x.2.1 x.2.2) ++ recA q r :: l2.map (fun x => recA x.2.1 x.2.2)) :: cells p [int t.flight, int t.begun, .map (some rb), .map (some cb), .map (some gb)] 85 :: mapA int rptr rb t.runs :: mapA Key.enc int cb t.cur :: mapA Key.enc int gb t.gens :: L) := by
      have e2 : t.runs.map (fun x => recA x.2.1 x.2.2) = l1.map (fun x => recA x.2.1 x.2.2) ++ recA q r :: l2.map (fun x => recA x.2.1 x.2.2) := by rw [e]; simp
      rw [← e2]; exact s1
    have s3 := Star_mid _ _ _ s2
    rw [← List.map_append] at s3
    exact s3.sort [0, 2, 3, 4, 5, 1] rfl
  · intro w1 w' f cur gens M s
    refine St.tabShut (rb := rb) (cb := cb) (gb := gb) ?_
    have s1 := s.sort [0, 5, 2, 1, 3, 4] rfl
    rw [List.map_append] at s1
    have s2 := Star_mid' _ _ _ s1
    have s3 := (s2.sort [1, 0] rfl).mapRe (fun k x => if k = n then (x.1, f x.2) else x) (by intro k x; by_cases hk : k = n <;> simp [hk, rptr])
    have s4 := s3.sort [2, 0, 3, 4, 1] rfl
    have e2 : (amod t.runs n (fun x => (x.1, f x.2))).map (fun x => recA x.2.1 x.2.2) = l1.map (fun x => recA x.2.1 x.2.2) ++ recA q (f r) :: l2.map (fun x => recA x.2.1 x.2.2) := by
      rw [e, amod_mid _ _ _ _ _ h1 h2]; simp
    simp only [tabParts]
    rw [e2]
    exact s4
  · intro w1 w' cur gens M s
    refine St.tabShut (rb := rb) (cb := cb) (gb := gb) ?_
    have e2 : adel t.runs n = l1 ++ l2 := by rw [e, adel_mid _ _ _ _ h1 h2]
    simp only [tabParts, tabRest] at s ⊢
    rw [e2] at s ⊢
    exact s
end Ytfhfkfnffajciaa
end Go.Proofs
