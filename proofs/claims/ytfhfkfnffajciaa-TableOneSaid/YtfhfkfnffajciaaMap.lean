/- Maps: a block that is a map, as an assertion; what look-up, store, delete and len do to it. -/
import Derived.Test.YtfhfkfnffajciaaSl
import Derived.MapKept
import Derived.Carry
namespace Go.Proofs.Ytfhfkfnffajciaa
open Go.RowKit
set_option linter.unusedSectionVars false
set_option linter.unusedSimpArgs false

section
variable {K V : Type} [DecidableEq K]

def aget (m : List (K × V)) (k : K) : Option V := (m.find? (fun x => decide (x.1 = k))).map (·.2)
def aput : List (K × V) → K → V → List (K × V)
  | [], k, v => [(k, v)]
  | (k', v') :: m, k, v => if k' = k then (k', v) :: m else (k', v') :: aput m k v
def adel (m : List (K × V)) (k : K) : List (K × V) := m.filter fun x => decide (x.1 ≠ k)
def akeys (m : List (K × V)) : List K := m.map (·.1)

theorem aget_nil (k : K) : aget ([] : List (K × V)) k = none := rfl
theorem aget_cons (x : K × V) (m : List (K × V)) (k : K) : aget (x :: m) k = if x.1 = k then some x.2 else aget m k := by
  unfold aget; rw [List.find?_cons]; by_cases h : x.1 = k <;> simp [h]
theorem aget_aput (m : List (K × V)) (k k' : K) (v : V) : aget (aput m k v) k' = if k = k' then some v else aget m k' := by
  induction m with
  | nil => simp [aput, aget_cons, aget_nil]
  | cons x m ih =>
    obtain ⟨kx, vx⟩ := x
    unfold aput
    by_cases h : kx = k
    · subst h; rw [if_pos rfl]; simp only [aget_cons]; by_cases h2 : kx = k' <;> simp [h2]
    · rw [if_neg h, aget_cons, aget_cons, ih]
      by_cases h2 : kx = k'
      · subst h2; simp [Ne.symm h]
      · simp [h2]
theorem aget_adel (m : List (K × V)) (k k' : K) : aget (adel m k) k' = if k = k' then none else aget m k' := by
  induction m with
  | nil => simp [adel, aget_nil]
  | cons x m ih =>
    unfold adel at ih ⊢
    rw [List.filter_cons]
    by_cases h : x.1 = k
    · simp only [h, ne_eq, not_true, decide_false, Bool.false_eq_true, if_false, ih, aget_cons]
      by_cases h2 : k = k' <;> simp [h2]
    · simp only [h, ne_eq, not_false_iff, decide_true, if_true, aget_cons, ih]
      by_cases h2 : k = k'
      · subst h2; simp [h]
      · simp [h2]
theorem aget_none {m : List (K × V)} {k : K} : aget m k = none ↔ k ∉ akeys m := by
  induction m with
  | nil => simp [aget_nil, akeys]
  | cons x m ih =>
    rw [aget_cons]; unfold akeys at ih ⊢
    by_cases h : x.1 = k
    · simp [h]
    · simp only [h, if_false, ih, List.map_cons, List.mem_cons, not_or]
      exact ⟨fun a => ⟨fun e => h e.symm, a⟩, fun a => a.2⟩
theorem aget_some {m : List (K × V)} {k : K} {v : V} (h : aget m k = some v) : (k, v) ∈ m := by
  induction m with
  | nil => simp [aget_nil] at h
  | cons x m ih =>
    rw [aget_cons] at h
    by_cases e : x.1 = k
    · simp [e] at h; subst h; subst e; exact List.mem_cons_self
    · simp [e] at h; exact List.mem_cons_of_mem _ (ih h)
theorem aget_mem {m : List (K × V)} {k : K} {v : V} (hn : (akeys m).Nodup) (h : (k, v) ∈ m) : aget m k = some v := by
  induction m with
  | nil => cases h
  | cons x m ih =>
    rw [aget_cons]
    simp only [akeys, List.map_cons, List.nodup_cons] at hn
    rcases List.mem_cons.1 h with rfl | h
    · simp
    · have : x.1 ≠ k := fun e => hn.1 (e ▸ List.mem_map.2 ⟨_, h, rfl⟩)
      simp [this]; exact ih hn.2 h
theorem mem_akeys {m : List (K × V)} {k : K} : k ∈ akeys m ↔ ∃ v, aget m k = some v := by
  have := aget_none (m := m) (k := k)
  cases h : aget m k with
  | none => simp [this.1 h]
  | some v => simp only [Option.some.injEq, exists_eq', iff_true]; exact List.mem_map.2 ⟨_, aget_some h, rfl⟩
theorem akeys_aput_mem {m : List (K × V)} {k : K} {v : V} (h : k ∈ akeys m) : akeys (aput m k v) = akeys m := by
  induction m with
  | nil => simp [akeys] at h
  | cons x m ih =>
    obtain ⟨kx, vx⟩ := x
    unfold aput
    by_cases e : kx = k
    · simp [e, akeys]
    · simp only [e, if_false]
      simp only [akeys, List.map_cons, List.mem_cons] at h ih ⊢
      rw [ih (h.resolve_left (fun a => e a.symm))]
theorem aput_not_mem {m : List (K × V)} {k : K} {v : V} (h : k ∉ akeys m) : aput m k v = m ++ [(k, v)] := by
  induction m with
  | nil => rfl
  | cons x m ih =>
    obtain ⟨kx, vx⟩ := x
    simp only [akeys, List.map_cons, List.mem_cons, not_or] at h ih
    unfold aput
    rw [if_neg (fun e => h.1 e.symm), ih h.2]; rfl
theorem nodup_aput {m : List (K × V)} {k : K} {v : V} (hn : (akeys m).Nodup) : (akeys (aput m k v)).Nodup := by
  by_cases h : k ∈ akeys m
  · rw [akeys_aput_mem h]; exact hn
  · rw [aput_not_mem h]; simp only [akeys, List.map_append, List.map_cons, List.map_nil]
    exact List.nodup_append.2 ⟨hn, by simp, fun a ha b hb e => by simp at hb; subst hb; subst e; exact h ha⟩
theorem nodup_adel {m : List (K × V)} {k : K} (hn : (akeys m).Nodup) : (akeys (adel m k)).Nodup := List.Nodup.sublist (List.Sublist.map _ List.filter_sublist) hn
theorem aput_mid (p q : List (K × V)) (k : K) (v v' : V) (h : ∀ x ∈ p, x.1 ≠ k) : aput (p ++ (k, v) :: q) k v' = p ++ (k, v') :: q := by
  induction p with
  | nil => simp [aput]
  | cons x p ih =>
    obtain ⟨kx, vx⟩ := x
    have := h _ List.mem_cons_self
    simp only [List.cons_append, aput, if_neg this]
    rw [ih fun y hy => h y (List.mem_cons_of_mem _ hy)]
theorem length_aput {m : List (K × V)} {k : K} {v : V} : (aput m k v).length = if k ∈ akeys m then m.length else m.length + 1 := by
  by_cases h : k ∈ akeys m
  · have := congrArg List.length (akeys_aput_mem (v := v) h); rw [if_pos h]; simpa [akeys] using this
  · rw [aput_not_mem h]; simp [h]

/-! ### entries of the model -/
def ment (enc : K → Value) (venc : V → Value) (x : K × V × Nat) : MapEntry := { key := enc x.1, val := venc x.2.1, born := x.2.2 }
def findAt (k : K) : List (K × Value) → Nat → Option (Nat × Value)
  | [], _ => none
  | x :: l, i => if k = x.1 then some (i, x.2) else findAt k l (i + 1)
/-- a type of keys: how it is spelled, and that the model finds a key just where it stands -/
structure KeyTy (P : Program) (kt : TypeId) (enc : K → Value) : Prop where
  find : ∀ (w : World) (k : K) (es : List MapEntry) (l : List (K × Value)), es.map (fun e => (e.key, e.val)) = l.map (fun x => (enc x.1, x.2)) →
    (Instr.findKey kt (enc k) es).run P w = .ok (findAt k l 0) w
  chk : ∀ (w : World) (em : Bool) (k : K), (Instr.checkKey em 10000 kt (enc k)).run P w = .ok () w
  bits : ∀ k : K, Instr.sameBits 10000 (enc k) (enc k) = true

def mapEs (enc : K → Value) (venc : V → Value) (b : Nat) (m : List (K × V)) (es : List (K × V × Nat)) (clock : Nat) : Asn :=
  star (obj b (.map (es.map (ment enc venc)).toArray clock))
    (pureA (es.map (fun x => (x.1, x.2.1)) = m ∧ (akeys m).Nodup ∧ (es.map (·.2.2)).Pairwise (· < ·) ∧ ∀ x ∈ es, x.2.2 < clock))
/-- block b is a map -/
def mapA (enc : K → Value) (venc : V → Value) (b : Nat) (m : List (K × V)) : Asn := exA fun (es : List (K × V × Nat)) => exA fun (clock : Nat) => mapEs enc venc b m es clock

variable {enc : K → Value} {venc : V → Value} {w0 w : World} {b : Nat} {m : List (K × V)} {L : List Asn}

theorem St.mapOpen (s : St w0 w (mapA enc venc b m :: L)) : ∃ (es : List (K × V × Nat)) (clock : Nat), St w0 w (obj b (.map (es.map (ment enc venc)).toArray clock) :: L) ∧
    es.map (fun x => (x.1, x.2.1)) = m ∧ (akeys m).Nodup ∧ (es.map (·.2.2)).Pairwise (· < ·) ∧ ∀ x ∈ es, x.2.2 < clock := by
  obtain ⟨es, s⟩ := St.ex.1 s
  obtain ⟨clock, s⟩ := St.ex.1 s
  have s := St.flat.1 s
  obtain ⟨hp, s⟩ := St.pure.1 s.swap
  exact ⟨es, clock, s, hp⟩
theorem St.mapShut {es : List (K × V × Nat)} {clock : Nat} (s : St w0 w (obj b (.map (es.map (ment enc venc)).toArray clock) :: L))
    (h : es.map (fun x => (x.1, x.2.1)) = m ∧ (akeys m).Nodup ∧ (es.map (·.2.2)).Pairwise (· < ·) ∧ ∀ x ∈ es, x.2.2 < clock) : St w0 w (mapA enc venc b m :: L) :=
  St.ex.2 ⟨es, St.ex.2 ⟨clock, St.flat.2 (St.pure.2 ⟨h, s⟩).swap⟩⟩
theorem St.nodup (s : St w0 w (mapA enc venc b m :: L)) : (akeys m).Nodup := let ⟨_, _, _, _, h, _⟩ := s.mapOpen; h
theorem St.mapNew (s : St w0 w L) : St w0 (w.alloc (.map #[] 0)) (mapA enc venc w.heap.size ([] : List (K × V)) :: L) :=
  St.mapShut (es := []) (clock := 0) (s.alloc _) ⟨rfl, List.nodup_nil, by simp, by simp⟩
/-- a map of one spelling is one of another that agrees on what is there -/
theorem St.mapLt (s : St w0 w (mapA enc venc b m :: L)) : b < w.heap.size := let ⟨_, _, s', _⟩ := s.mapOpen; s'.lt

theorem findAt_spec (k : K) : ∀ (l : List (K × Value)) (i : Nat),
    (findAt k l i = none ∧ (∀ x ∈ l, x.1 ≠ k)) ∨ ∃ p v q, l = p ++ (k, v) :: q ∧ (∀ x ∈ p, x.1 ≠ k) ∧ findAt k l i = some (i + p.length, v) := by
  intro l
  induction l with
  | nil => exact fun i => .inl ⟨rfl, by simp⟩
  | cons x l ih =>
    intro i
    obtain ⟨kx, vx⟩ := x
    by_cases h : k = kx
    · subst h; exact .inr ⟨[], vx, l, rfl, by simp, by simp [findAt]⟩
    · rcases ih (i + 1) with ⟨h1, h2⟩ | ⟨p, v, q, rfl, hp, h1⟩
      · exact .inl ⟨by simp [findAt, h, h1], fun y hy => by
          rcases List.mem_cons.1 hy with rfl | hy
          · exact fun e => h e.symm
          · exact h2 y hy⟩
      · refine .inr ⟨(kx, vx) :: p, v, q, rfl, fun y hy => ?_, ?_⟩
        · rcases List.mem_cons.1 hy with rfl | hy
          · exact fun e => h e.symm
          · exact hp y hy
        · simp only [findAt, if_neg h, h1, List.length_cons]; congr 2; omega
/-- the same over the entries themselves -/
theorem findAt_ents (k : K) (es : List (K × V × Nat)) :
    (findAt k (es.map fun x => (x.1, venc x.2.1)) 0 = none ∧ (∀ x ∈ es, x.1 ≠ k)) ∨
    ∃ p v n q, es = p ++ (k, v, n) :: q ∧ (∀ x ∈ p, x.1 ≠ k) ∧ findAt k (es.map fun x => (x.1, venc x.2.1)) 0 = some (p.length, venc v) := by
  rcases findAt_spec k (es.map fun x => (x.1, venc x.2.1)) 0 with ⟨h1, h2⟩ | ⟨p, v, q, e, hp, h1⟩
  · exact .inl ⟨h1, fun x hx => h2 (x.1, venc x.2.1) (List.mem_map.2 ⟨x, hx, rfl⟩)⟩
  · obtain ⟨p', r, rfl, ep, er⟩ := List.map_eq_append_iff.1 e
    obtain ⟨y, q', rfl, ey, eq⟩ := List.map_eq_cons_iff.1 er
    obtain ⟨ky, vy, ny⟩ := y
    simp only [Prod.mk.injEq] at ey
    obtain ⟨rfl, rfl⟩ := ey
    refine .inr ⟨p', vy, ny, q', rfl, fun x hx => ?_, ?_⟩
    · exact hp (x.1, venc x.2.1) (ep ▸ List.mem_map.2 ⟨x, hx, rfl⟩)
    · rw [h1, ← ep]; simp

variable {P : Program} {t kt e : TypeId}

theorem KeyTy.findEs (H : KeyTy P kt enc) (w : World) (k : K) (es : List (K × V × Nat)) :
    (Instr.findKey kt (enc k) (es.map (ment enc venc))).run P w = .ok (findAt k (es.map fun x => (x.1, venc x.2.1)) 0) w :=
  H.find w k _ _ (by simp [ment, Function.comp_def])
theorem aget_ents_none {es : List (K × V × Nat)} {k : K} (h : ∀ x ∈ es, x.1 ≠ k) : aget (es.map fun x => (x.1, x.2.1)) k = none := by
  rw [aget_none]; intro hm
  simp only [akeys, List.map_map, List.mem_map, Function.comp] at hm
  obtain ⟨x, hx, rfl⟩ := hm
  exact h x hx rfl
theorem aget_ents_some {p q : List (K × V × Nat)} {k : K} {v : V} {n : Nat} (h : ∀ x ∈ p, x.1 ≠ k) :
    aget ((p ++ (k, v, n) :: q).map fun x => (x.1, x.2.1)) k = some v := by
  induction p with
  | nil => simp [aget_cons]
  | cons x p ih =>
    rw [List.cons_append, List.map_cons, aget_cons, if_neg (h x List.mem_cons_self)]
    exact ih fun y hy => h y (List.mem_cons_of_mem _ hy)

/-- what a look-up finds: the value, or the zero one -/
def orZ (venc : V → Value) (z : Value) : Option V → Value
  | some v => venc v
  | none => z
theorem St.lookup (H : KeyTy P kt enc) (ht : P.underlying t = some (.map kt e)) {z : Value} (hz : ∀ w, (zeroValue e).run P w = .ok z w)
    (s : St w0 w (mapA enc venc b m :: L)) (k : K) :
    (Instr.lookup t (.map (some b)) (enc k) false).run P w = .ok (orZ venc z (aget m k)) w ∧
    (Instr.lookup t (.map (some b)) (enc k) true).run P w = .ok (.tuple #[orZ venc z (aget m k), .bool (aget m k).isSome]) w := by
  obtain ⟨es, clock, s1, rfl, _⟩ := s.mapOpen
  have hb := s1.obj_at.1
  have hg : (getObj b).run P w = .ok (.map (es.map (ment enc venc)).toArray clock) w := by simp [getObj, Sem.run, hb]
  have hf := H.findEs (venc := venc) w k es
  rcases findAt_ents (venc := venc) k es with ⟨h1, h2⟩ | ⟨p, v, n, q, rfl, hp, h1⟩
  · rw [h1] at hf; rw [aget_ents_none h2]
    constructor <;> simp [Instr.lookup, run_underlying ht, hg, H.chk, hf, hz, orZ]
  · rw [h1] at hf; rw [aget_ents_some hp]
    simp only [List.map_append, List.map_cons] at hf
    constructor <;> simp [Instr.lookup, run_underlying ht, hg, H.chk, hf, orZ]
theorem orZ_int (o : Option Int) : orZ (Value.int .i64) (.int .i64 0) o = .int .i64 (o.getD 0) := by cases o <;> rfl
theorem orZ_bool (o : Option Bool) : orZ Value.bool (.bool false) o = .bool (o.getD false) := by cases o <;> rfl
/-- the same for the walk: in every world in which the map's block is as it was -/
theorem St.lookupAt (H : KeyTy P kt enc) (ht : P.underlying t = some (.map kt e)) {z : Value} (hz : ∀ w, (zeroValue e).run P w = .ok z w)
    (s : St w0 w (mapA enc venc b m :: L)) (k : K) : ∀ W : World, SameB b W w →
    (Instr.lookup t (.map (some b)) (enc k) false).run P W = .ok (orZ venc z (aget m k)) W ∧
    (Instr.lookup t (.map (some b)) (enc k) true).run P W = .ok (.tuple #[orZ venc z (aget m k), .bool (aget m k).isSome]) W := by
  intro W hW
  obtain ⟨es, clock, s1, hm⟩ := s.mapOpen
  have hb := hW.trans s1.obj_at.1
  have hg : (getObj b).run P W = .ok (.map (es.map (ment enc venc)).toArray clock) W := by simp [getObj, Sem.run, hb]
  obtain ⟨rfl, _⟩ := hm
  have hf := H.findEs (venc := venc) W k es
  rcases findAt_ents (venc := venc) k es with ⟨h1, h2⟩ | ⟨p, v, n, q, rfl, hp, h1⟩
  · rw [h1] at hf; rw [aget_ents_none h2]
    constructor <;> simp [Instr.lookup, run_underlying ht, hg, H.chk, hf, hz, orZ]
  · rw [h1] at hf; rw [aget_ents_some hp]
    simp only [List.map_append, List.map_cons] at hf
    constructor <;> simp [Instr.lookup, run_underlying ht, hg, H.chk, hf, orZ]
theorem St.lenAt (ht : P.underlying t = some (.map kt e)) (s : St w0 w (mapA enc venc b m :: L)) (ty : TypeId) : ∀ W : World, SameB b W w →
    (Builtin.len_ #[t] ty #[.map (some b)]).run P W = .ok (.int .i64 m.length) W := by
  intro W hW
  obtain ⟨es, clock, s1, rfl, _⟩ := s.mapOpen
  have hb := hW.trans s1.obj_at.1
  have hg : (getObj b).run P W = .ok (.map (es.map (ment enc venc)).toArray clock) W := by simp [getObj, Sem.run, hb]
  simp [Builtin.len_, run_underlying ht, hg, goInt]
theorem nodup_ents {es : List (K × V × Nat)} {m : List (K × V)} (h : es.map (fun x => (x.1, x.2.1)) = m) : akeys m = es.map (·.1) := by
  subst h; simp [akeys, Function.comp_def]
theorem modify_mid {α : Type} (p : List α) (x : α) (q : List α) (f : α → α) : (p ++ x :: q).modify p.length f = p ++ f x :: q := by
  induction p with
  | nil => rfl
  | cons y p ih => simp [ih]
/-- a store at a key -/
theorem St.mapPut (H : KeyTy P kt enc) (ht : P.underlying t = some (.map kt e)) (s : St w0 w (mapA enc venc b m :: L)) (k : K) (v : V) :
    ∃ w', (Instr.mapUpdate t (.map (some b)) (enc k) (venc v)).run P w = .ok () w' ∧ St w0 w' (mapA enc venc b (aput m k v) :: L) ∧ w'.heap.size = w.heap.size := by
  have hnd := s.nodup
  obtain ⟨es, clock, s1, rfl, hn, hpw, hlt⟩ := s.mapOpen
  have hb := s1.obj_at.1
  have hbl := s1.lt
  have hg : (getObj b).run P w = .ok (.map (es.map (ment enc venc)).toArray clock) w := by simp [getObj, Sem.run, hb]
  have hset : ∀ o, (setObj b o).run P w = .ok () { w with heap := w.heap.setIfInBounds b o } := fun o => by simp [setObj, Sem.run, hb]
  have hf := H.findEs (venc := venc) w k es
  rcases findAt_ents (venc := venc) k es with ⟨h1, h2⟩ | ⟨p, u, n, q, rfl, hp, h1⟩
  · rw [h1] at hf
    refine ⟨{ w with heap := w.heap.setIfInBounds b (.map ((es.map (ment enc venc)).toArray.push (ment enc venc (k, v, clock))) (clock + 1)) }, ?_, ?_, by simp⟩
    · simp [Instr.mapUpdate, run_underlying ht, hg, H.chk, hf, hset, ment]
    · have hm : aput (es.map fun x => (x.1, x.2.1)) k v = es.map (fun x => (x.1, x.2.1)) ++ [(k, v)] := aput_not_mem (aget_none.1 (aget_ents_none h2))
      refine St.mapShut (es := es ++ [(k, v, clock)]) (clock := clock + 1) (St.put s1 ?_ (fun j hj => ?_) (by simp) rfl rfl rfl) ⟨by rw [hm]; simp, nodup_aput hnd, ?_, ?_⟩
      · simp [Array.getElem?_setIfInBounds, hbl]
      · simp [Array.getElem?_setIfInBounds, Ne.symm hj]
      · simp only [List.map_append, List.map_cons, List.map_nil]
        refine List.pairwise_append.2 ⟨hpw, by simp, fun a ha c hc => ?_⟩
        simp only [List.mem_singleton] at hc; subst hc
        obtain ⟨x, hx, rfl⟩ := List.mem_map.1 ha
        exact hlt x hx
      · intro x hx
        rcases List.mem_append.1 hx with hx | hx
        · have := hlt x hx; omega
        · simp only [List.mem_singleton] at hx; subst hx; simp
  · rw [h1] at hf
    have hkey : (((p ++ (k, u, n) :: q).map (ment enc venc)).toArray[p.length]?.map (·.key)).getD (enc k) = enc k := by simp [ment]
    have hmod : ((p ++ (k, u, n) :: q).map (ment enc venc)).toArray.modify p.length (fun e => { e with key := enc k, val := venc v }) = ((p ++ (k, v, n) :: q).map (ment enc venc)).toArray := by
      apply Array.ext'
      simp only [Array.toList_modify, List.map_append, List.map_cons]
      have := modify_mid (p.map (ment enc venc)) (ment enc venc (k, u, n)) (q.map (ment enc venc)) (fun e => { e with key := enc k, val := venc v })
      rw [List.length_map] at this
      rw [this]; rfl
    refine ⟨{ w with heap := w.heap.setIfInBounds b (.map ((p ++ (k, v, n) :: q).map (ment enc venc)).toArray clock) }, ?_, ?_, by simp⟩
    · simp only [Instr.mapUpdate, Sem.run_bind, run_underlying ht, Result.andThen_ok, hg, H.chk, hf, Instr.keyThatStays, hkey, H.bits, if_true, Sem.run_pure, hmod, hset]
    · refine St.mapShut (es := p ++ (k, v, n) :: q) (clock := clock) (St.put s1 ?_ (fun j hj => ?_) (by simp) rfl rfl rfl) ⟨?_, nodup_aput hnd, ?_, ?_⟩
      · simp [Array.getElem?_setIfInBounds, hbl]
      · simp [Array.getElem?_setIfInBounds, Ne.symm hj]
      · simp only [List.map_append, List.map_cons]
        rw [aput_mid]
        intro x hx
        obtain ⟨y, hy, rfl⟩ := List.mem_map.1 hx
        exact hp y hy
      · simpa using hpw
      · intro x hx
        rcases List.mem_append.1 hx with hx | hx
        · exact hlt x (List.mem_append.2 (.inl hx))
        · rcases List.mem_cons.1 hx with rfl | hx
          · exact hlt (k, u, n) (by simp)
          · exact hlt x (by simp [hx])
/-- delete -/
theorem St.mapDel (H : KeyTy P kt enc) (ht : P.underlying t = some (.map kt e)) (s : St w0 w (mapA enc venc b m :: L)) (k : K) (ty kt' : TypeId) :
    ∃ w', (Builtin.delete_ #[t, kt'] ty #[.map (some b), enc k]).run P w = .ok (.tuple #[]) w' ∧ St w0 w' (mapA enc venc b (adel m k) :: L) ∧ w'.heap.size = w.heap.size := by
  have hnd := s.nodup
  obtain ⟨es, clock, s1, rfl, hn, hpw, hlt⟩ := s.mapOpen
  have hb := s1.obj_at.1
  have hbl := s1.lt
  have hg : (getObj b).run P w = .ok (.map (es.map (ment enc venc)).toArray clock) w := by simp [getObj, Sem.run, hb]
  have hset : ∀ o, (setObj b o).run P w = .ok () { w with heap := w.heap.setIfInBounds b o } := fun o => by simp [setObj, Sem.run, hb]
  have hf := H.findEs (venc := venc) w k es
  rcases findAt_ents (venc := venc) k es with ⟨h1, h2⟩ | ⟨p, u, n, q, rfl, hp, h1⟩
  · rw [h1] at hf
    refine ⟨{ w with heap := w.heap.setIfInBounds b (.map (es.map (ment enc venc)).toArray clock) }, ?_, ?_, by simp⟩
    · simp [Builtin.delete_, run_underlying ht, hg, H.chk, hf, hset]
    · refine St.mapShut (es := es) (clock := clock) (St.put s1 ?_ (fun j hj => ?_) (by simp) rfl rfl rfl) ⟨?_, nodup_adel hnd, hpw, hlt⟩
      · simp [Array.getElem?_setIfInBounds, hbl]
      · simp [Array.getElem?_setIfInBounds, Ne.symm hj]
      · unfold adel; rw [List.filter_eq_self.2]
        intro x hx
        obtain ⟨y, hy, rfl⟩ := List.mem_map.1 hx
        simpa using h2 y hy
  · rw [h1] at hf
    have hdel : ((p ++ (k, u, n) :: q).map (ment enc venc)).toArray.eraseIdxIfInBounds p.length = ((p ++ q).map (ment enc venc)).toArray := by
      apply Array.ext'
      rw [Array.toList_eraseIdxIfInBounds]
      simp [List.eraseIdx_append_of_length_le]
    refine ⟨{ w with heap := w.heap.setIfInBounds b (.map ((p ++ q).map (ment enc venc)).toArray clock) }, ?_, ?_, by simp⟩
    · simp only [Builtin.delete_, List.getElem?_toArray, List.getElem?_cons_zero, List.getElem?_cons_succ, Sem.run_bind, run_underlying ht, Result.andThen_ok, hg, H.chk, hf, hdel, hset, Sem.run_pure]
    · have hsub : (p ++ q).Sublist (p ++ (k, u, n) :: q) := List.Sublist.append (List.Sublist.refl _) (List.sublist_cons_self _ _)
      refine St.mapShut (es := p ++ q) (clock := clock) (St.put s1 ?_ (fun j hj => ?_) (by simp) rfl rfl rfl) ⟨?_, nodup_adel hnd, List.Pairwise.sublist (hsub.map _) hpw, fun x hx => hlt x (hsub.subset hx)⟩
      · simp [Array.getElem?_setIfInBounds, hbl]
      · simp [Array.getElem?_setIfInBounds, Ne.symm hj]
      · rw [nodup_ents rfl] at hnd
        simp only [List.map_append, List.map_cons, List.nodup_append, List.nodup_cons] at hnd
        unfold adel
        simp only [List.map_append, List.map_cons, List.filter_append, List.filter_cons, ne_eq, not_true, decide_false, Bool.false_eq_true, if_false]
        rw [List.filter_eq_self.2, List.filter_eq_self.2]
        · intro x hx
          obtain ⟨y, hy, rfl⟩ := List.mem_map.1 hx
          have := hnd.2.1.1
          simp only [decide_eq_true_eq]
          exact fun e => this (List.mem_map.2 ⟨y, hy, e⟩)
        · intro x hx
          obtain ⟨y, hy, rfl⟩ := List.mem_map.1 hx
          simpa using hp y hy
theorem St.mapLen (ht : P.underlying t = some (.map kt e)) (s : St w0 w (mapA enc venc b m :: L)) (ty : TypeId) :
    (Builtin.len_ #[t] ty #[.map (some b)]).run P w = .ok (.int .i64 m.length) w := by
  obtain ⟨es, clock, s1, rfl, _⟩ := s.mapOpen
  have hb := s1.obj_at.1
  have hg : (getObj b).run P w = .ok (.map (es.map (ment enc venc)).toArray clock) w := by simp [getObj, Sem.run, hb]
  simp [Builtin.len_, run_underlying ht, hg, goInt]
end

/-! ### the types of keys -/
theorem findNow_int (q : IntKind) (k : Int) : ∀ (es : List MapEntry) (l : List (Int × Value)) (i : Nat), es.map (fun e => (e.key, e.val)) = l.map (fun x => (Value.int q x.1, x.2)) →
    Instr.findNow (.int q) (.int q k) es i = some (findAt k l i)
  | [], [], _, _ => rfl
  | [], _ :: _, _, h => by simp at h
  | _ :: _, [], _, h => by simp at h
  | e :: es, x :: l, i, h => by
    simp only [List.map_cons, List.cons.injEq, Prod.mk.injEq] at h
    obtain ⟨⟨h1, h2⟩, h3⟩ := h
    unfold Instr.findNow findAt
    rw [h1]
    by_cases hk : k = x.1
    · subst hk; simp [Instr.sameNow, h2]
    · have : (k == x.1) = false := by simpa using hk
      simp only [Instr.sameNow, if_true, this, hk, if_false]
      exact findNow_int q k es l (i + 1) h3
theorem sameBits_int (n : Nat) (q r : IntKind) (a b : Int) : Instr.sameBits n (.int q a) (.int r b) = (q == r && a == b) := by
  cases n <;> rfl
theorem keyTy_int {P : Program} {kt : TypeId} {q : IntKind} (h : P.underlying kt = some (.int q)) : KeyTy P kt (Value.int q) where
  find w k es l he := by
    simp only [Instr.findKey, Sem.run_bind, run_underlying h, Result.andThen_ok]
    rw [findNow_int q k es l 0 he]; rfl
  chk w em k := MapKept.run_checkKey (d := .int q) h (k := .int q k) rfl em 9999
  bits k := by
    rw [sameBits_int]; simp
theorem findAsking_eq {P : Program} {kt : TypeId} {K : Type} [DecidableEq K] {enc : K → Value} (heq : ∀ (w : World) (a b : K), (Op.equal kt (enc a) (enc b)).run P w = .ok (decide (a = b)) w) (w : World) (k : K) :
    ∀ (es : List MapEntry) (l : List (K × Value)) (i : Nat), es.map (fun e => (e.key, e.val)) = l.map (fun x => (enc x.1, x.2)) → (Instr.findAsking kt (enc k) es i).run P w = .ok (findAt k l i) w
  | [], [], _, _ => rfl
  | [], _ :: _, _, h => by simp at h
  | _ :: _, [], _, h => by simp at h
  | e :: es, x :: l, i, h => by
    simp only [List.map_cons, List.cons.injEq, Prod.mk.injEq] at h
    obtain ⟨⟨h1, h2⟩, h3⟩ := h
    unfold Instr.findAsking findAt
    rw [h1, h2]
    simp only [Sem.run_bind, heq, Result.andThen_ok]
    by_cases hk : k = x.1
    · simp only [hk, decide_true, if_true, Sem.run_pure]
    · simp only [hk, decide_false, Bool.false_eq_true, if_false]
      exact findAsking_eq heq w k es l (i + 1) h3
/-- a type of keys that the model compares by its own '==' -/
theorem keyTy_of_eq {P : Program} {kt : TypeId} {d : TypeDesc} {K : Type} [DecidableEq K] {enc : K → Value} (h : P.underlying kt = some d) (hd : ∀ (k : K) (v : Value), Instr.sameNow d (enc k) v = none)
    (heq : ∀ (w : World) (a b : K), (Op.equal kt (enc a) (enc b)).run P w = .ok (decide (a = b)) w)
    (hchk : ∀ (w : World) (em : Bool) (k : K), (Instr.checkKey em 10000 kt (enc k)).run P w = .ok () w) (hbits : ∀ k : K, Instr.sameBits 10000 (enc k) (enc k) = true) : KeyTy P kt enc where
  find w k es l he := by
    have hnow : Instr.findNow d (enc k) es 0 = if es = [] then some none else none := by
      cases es with
      | nil => rfl
      | cons e es => simp [Instr.findNow, hd]
    simp only [Instr.findKey, Sem.run_bind, run_underlying h, Result.andThen_ok, hnow]
    cases es with
    | nil =>
      cases l with
      | nil => rfl
      | cons x l => simp at he
    | cons e es => simpa using findAsking_eq heq w k (e :: es) l 0 he
  chk := hchk
  bits := hbits
end Go.Proofs.Ytfhfkfnffajciaa
