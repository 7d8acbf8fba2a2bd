/- Maps: the two halves of a store in a statement with several left sides; the laws at the operations. -/
import Derived.Test.YtfhfkfnffajciaaMap
import Derived.Maps.OwnOps
import Derived.Maps.OwnSet
import Derived.Deep.AppendLies
namespace Go.Proofs.Ytfhfkfnffajciaa
open Go.RowKit
set_option linter.unusedSectionVars false
set_option linter.unusedSimpArgs false

section
variable {K V : Type} [DecidableEq K] {enc : K → Value} {venc : V → Value} {w0 w : World} {b : Nat} {m : List (K × V)} {L : List Asn} {P : Program} {t kt e : TypeId}

/-- what a look-up finds there -/
def pendAt (enc : K → Value) (venc : V → Value) (z : Value) (arr : Array MapEntry) (m : List (K × V)) (k : K) : Prop :=
  ∃ (l : List (K × Value)) (j : Nat), arr.toList.map (fun e => (e.key, e.val)) = l.map (fun x => (enc x.1, x.2)) ∧ findAt k l 0 = some (j, orZ venc z (aget m k))
/-- a map in which the entry of a key has been laid and not yet written -/
def pendA (enc : K → Value) (venc : V → Value) (z : Value) (b : Nat) (m : List (K × V)) (k : K) (n : Int) : Asn := exA fun (arr : Array MapEntry) => exA fun (clock : Nat) =>
  star (obj b (.map arr clock)) (pureA ((∃ i, arr.findIdx? (fun e => (e.born : Int) == n) = some i ∧ ∀ v, ∃ es : List (K × V × Nat),
    arr.modify i (fun e => { e with val := venc v }) = (es.map (ment enc venc)).toArray ∧ es.map (fun x => (x.1, x.2.1)) = aput m k v ∧ (akeys (aput m k v)).Nodup ∧ (es.map (·.2.2)).Pairwise (· < ·) ∧ ∀ x ∈ es, x.2.2 < clock) ∧ pendAt enc venc z arr m k))

theorem St.pendShut {k : K} {z : Value} {n : Int} {arr : Array MapEntry} {clock : Nat} (s : St w0 w (obj b (.map arr clock) :: L)) (h : ∃ i, arr.findIdx? (fun e => (e.born : Int) == n) = some i ∧ ∀ v, ∃ es : List (K × V × Nat),
    arr.modify i (fun e => { e with val := venc v }) = (es.map (ment enc venc)).toArray ∧ es.map (fun x => (x.1, x.2.1)) = aput m k v ∧ (akeys (aput m k v)).Nodup ∧ (es.map (·.2.2)).Pairwise (· < ·) ∧ ∀ x ∈ es, x.2.2 < clock) (h2 : pendAt enc venc z arr m k) :
    St w0 w (pendA enc venc z b m k n :: L) := St.ex.2 ⟨arr, St.ex.2 ⟨clock, St.flat.2 (St.swap (St.pure.2 ⟨⟨h, h2⟩, s⟩))⟩⟩
theorem findIdx_mid {α : Type} (p : List α) (x : α) (q : List α) (f : α → Bool) (hp : ∀ y ∈ p, f y = false) (hx : f x = true) : (p ++ x :: q).toArray.findIdx? f = some p.length := by
  rw [List.findIdx?_toArray]
  induction p with
  | nil => simp [List.findIdx?_cons, hx]
  | cons y p ih =>
    have h1 := hp y List.mem_cons_self
    have h2 := ih fun z hz => hp z (List.mem_cons_of_mem _ hz)
    simp [List.findIdx?_cons, h1, h2]
theorem findAt_skip (k : K) (v : Value) : ∀ (l q : List (K × Value)) (i : Nat), (∀ x ∈ l, x.1 ≠ k) → findAt k (l ++ (k, v) :: q) i = some (i + l.length, v)
  | [], q, i, _ => by simp [findAt]
  | x :: l, q, i, h => by
    have h1 : ¬ k = x.1 := fun e => h x List.mem_cons_self e.symm
    rw [List.cons_append, findAt, if_neg h1, findAt_skip k v l q (i + 1) fun y hy => h y (List.mem_cons_of_mem _ hy)]
    congr 2; simp; omega
theorem pendAt_new {es : List (K × V × Nat)} {k : K} {z : Value} {clock : Nat} (h2 : ∀ x ∈ es, x.1 ≠ k) :
    pendAt enc venc z ((es.map (ment enc venc)).toArray.push { key := enc k, val := z, born := clock }) (es.map fun x => (x.1, x.2.1)) k := by
  refine ⟨es.map (fun x => (x.1, venc x.2.1)) ++ [(k, z)], 0 + (es.map (fun x => (x.1, venc x.2.1))).length, ?_, ?_⟩
  · simp [ment]
  · rw [aget_ents_none h2]
    exact findAt_skip k z _ [] 0 (by intro x hx; obtain ⟨y, hy, rfl⟩ := List.mem_map.1 hx; exact h2 y hy)
theorem pendAt_old {p q : List (K × V × Nat)} {k : K} {z : Value} {u : V} {n : Nat} (hp : ∀ x ∈ p, x.1 ≠ k) :
    pendAt enc venc z ((p ++ (k, u, n) :: q).map (ment enc venc)).toArray ((p ++ (k, u, n) :: q).map fun x => (x.1, x.2.1)) k := by
  refine ⟨(p.map fun x => (x.1, venc x.2.1)) ++ (k, venc u) :: q.map (fun x => (x.1, venc x.2.1)), 0 + (p.map (fun x => (x.1, venc x.2.1))).length, ?_, ?_⟩
  · simp [ment, Function.comp_def]
  · rw [aget_ents_some hp]
    exact findAt_skip k (venc u) _ _ 0 (by intro x hx; obtain ⟨y, hy, rfl⟩ := List.mem_map.1 hx; exact hp y hy)
theorem St.pendLookup (H : KeyTy P kt enc) (ht : P.underlying t = some (.map kt e)) {z : Value} {k : K} {n : Int} (s : St w0 w (pendA enc venc z b m k n :: L)) :
    (Instr.lookup t (.map (some b)) (enc k) false).run P w = .ok (orZ venc z (aget m k)) w := by
  obtain ⟨arr, s⟩ := St.ex.1 s
  obtain ⟨clock, s⟩ := St.ex.1 s
  obtain ⟨⟨_, l, j, h1, h2⟩, s1⟩ := St.pure.1 (St.flat.1 s).swap
  have hb := s1.obj_at.1
  have hg : (getObj b).run P w = .ok (.map arr clock) w := by simp [getObj, Sem.run, hb]
  have hf := H.find w k arr.toList l h1
  rw [h2] at hf
  simp [Instr.lookup, run_underlying ht, hg, H.chk, hf]
theorem St.mapPend (H : KeyTy P kt enc) (ht : P.underlying t = some (.map kt e)) {z : Value} (hz : ∀ w, (zeroValue e).run P w = .ok z w) (s : St w0 w (mapA enc venc b m :: L)) (k : K) :
    ∃ v n w', (Instr.mapEntry t (.map (some b)) (enc k)).run P w = .ok (.tuple #[v, .int .i64 n]) w' ∧ St w0 w' (pendA enc venc z b m k n :: L) ∧ w'.heap.size = w.heap.size := by
  have hnd := s.nodup
  obtain ⟨es, clock, s1, rfl, hn, hpw, hlt⟩ := s.mapOpen
  have hb := s1.obj_at.1
  have hbl := s1.lt
  have hg : (getObj b).run P w = .ok (.map (es.map (ment enc venc)).toArray clock) w := by simp [getObj, Sem.run, hb]
  have hset : ∀ o, (setObj b o).run P w = .ok () { w with heap := w.heap.setIfInBounds b o } := fun o => by simp [setObj, Sem.run, hb]
  have hf := H.findEs (venc := venc) w k es
  rcases findAt_ents (venc := venc) k es with ⟨h1, h2⟩ | ⟨p, u, n, q, rfl, hp, h1⟩
  · rw [h1] at hf
    refine ⟨z, clock, { w with heap := w.heap.setIfInBounds b (.map ((es.map (ment enc venc)).toArray.push { key := enc k, val := z, born := clock }) (clock + 1)) }, ?_, ?_, by simp⟩
    · simp [Instr.mapEntry, run_underlying ht, hg, H.chk, hf, hset, hz, goInt]
    · have hm : ∀ v, aput (es.map fun x => (x.1, x.2.1)) k v = es.map (fun x => (x.1, x.2.1)) ++ [(k, v)] := fun v => aput_not_mem (aget_none.1 (aget_ents_none h2))
      have sp := St.put (w' := { w with heap := w.heap.setIfInBounds b (.map ((es.map (ment enc venc)).toArray.push { key := enc k, val := z, born := clock }) (clock + 1)) }) s1 (by simp only [Array.getElem?_setIfInBounds, hbl, if_true]; rfl) (fun j hj => by simp [Array.getElem?_setIfInBounds, Ne.symm hj]) (by simp) rfl rfl rfl
      refine St.pendShut sp ⟨es.length, ?_, fun v => ⟨es ++ [(k, v, clock)], ?_, by rw [hm]; simp, nodup_aput hnd, ?_, ?_⟩⟩ (pendAt_new h2)
      · have := findIdx_mid (es.map (ment enc venc)) { key := enc k, val := z, born := clock } [] (fun e => (e.born : Int) == clock) (fun y hy => by
          obtain ⟨x, hx, rfl⟩ := List.mem_map.1 hy
          have := hlt x hx
          simp [ment]; omega) (by simp)
        simpa using this
      · apply Array.ext'
        have := modify_mid (es.map (ment enc venc)) { key := enc k, val := z, born := clock } [] (fun e => { e with val := venc v })
        rw [List.length_map] at this
        simp only [Array.toList_modify, Array.toList_push, this]
        simp [ment]
      · simp only [List.map_append, List.map_cons, List.map_nil]
        refine List.pairwise_append.2 ⟨hpw, by simp, fun a ha c hc => ?_⟩
        simp only [List.mem_singleton] at hc; subst hc
        obtain ⟨x, hx, rfl⟩ := List.mem_map.1 ha
        exact hlt x hx
      · intro x hx
        rcases List.mem_append.1 hx with hx | hx
        · have := hlt x hx; omega
        · simp only [List.mem_singleton] at hx; subst hx; simp
  · rw [h1] at hf
    have hkey : (((p ++ (k, u, n) :: q).map (ment enc venc)).toArray[p.length]?.map (·.key)).getD (enc k) = enc k := by simp [ment]
    have hborn : (((p ++ (k, u, n) :: q).map (ment enc venc)).toArray[p.length]?.map (·.born)).getD 0 = n := by simp [ment]
    have hborn2 : (((p ++ (k, u, n) :: q).map (ment enc venc)).toArray[p.length]?.map (fun x => (x.born : Int))).getD 0 = (n : Int) := by simp [ment]
    have hmod : ((p ++ (k, u, n) :: q).map (ment enc venc)).toArray.modify p.length (fun e => { e with key := enc k }) = ((p ++ (k, u, n) :: q).map (ment enc venc)).toArray := by
      apply Array.ext'
      simp only [Array.toList_modify, List.map_append, List.map_cons]
      have := modify_mid (p.map (ment enc venc)) (ment enc venc (k, u, n)) (q.map (ment enc venc)) (fun e => { e with key := enc k })
      rw [List.length_map] at this
      rw [this]; rfl
    have hmod2 : ∀ v, ((p ++ (k, u, n) :: q).map (ment enc venc)).toArray.modify p.length (fun e => { e with val := venc v }) = ((p ++ (k, v, n) :: q).map (ment enc venc)).toArray := fun v => by
      apply Array.ext'
      simp only [Array.toList_modify, List.map_append, List.map_cons]
      have := modify_mid (p.map (ment enc venc)) (ment enc venc (k, u, n)) (q.map (ment enc venc)) (fun e => { e with val := venc v })
      rw [List.length_map] at this
      rw [this]; rfl
    refine ⟨venc u, n, { w with heap := w.heap.setIfInBounds b (.map ((p ++ (k, u, n) :: q).map (ment enc venc)).toArray clock) }, ?_, ?_, by simp⟩
    · simp only [Instr.mapEntry, Sem.run_bind, run_underlying ht, Result.andThen_ok, hg, H.chk, hf, Instr.keyThatStays, hkey, H.bits, if_true, Sem.run_pure, hmod, hset, hborn, hborn2, goInt]
    · have sp := St.put (w' := { w with heap := w.heap.setIfInBounds b (.map ((p ++ (k, u, n) :: q).map (ment enc venc)).toArray clock) }) s1 (by simp only [Array.getElem?_setIfInBounds, hbl, if_true]; rfl) (fun j hj => by simp [Array.getElem?_setIfInBounds, Ne.symm hj]) (by simp) rfl rfl rfl
      refine St.pendShut sp ⟨p.length, ?_, fun v => ⟨p ++ (k, v, n) :: q, hmod2 v, ?_, nodup_aput hnd, ?_, ?_⟩⟩ (pendAt_old hp)
      · have := findIdx_mid (p.map (ment enc venc)) (ment enc venc (k, u, n)) (q.map (ment enc venc)) (fun e => (e.born : Int) == n) (fun y hy => by
          obtain ⟨x, hx, rfl⟩ := List.mem_map.1 hy
          have h3 : (p.map (·.2.2) ++ n :: q.map (·.2.2)).Pairwise (· < ·) := by simpa using hpw
          have := (List.pairwise_append.1 h3).2.2 x.2.2 (List.mem_map.2 ⟨x, hx, rfl⟩) n List.mem_cons_self
          simp [ment]; omega) (by simp [ment])
        simpa using this
      · simp only [List.map_append, List.map_cons]
        rw [aput_mid]
        intro x hx
        obtain ⟨y, hy, rfl⟩ := List.mem_map.1 hx
        exact hp y hy
      · simpa using hpw
      · intro x hx
        rcases List.mem_append.1 hx with hx | hx
        · exact hlt x (List.mem_append.2 (.inl hx))
        · rcases List.mem_cons.1 hx with rfl | hx
          · exact hlt (k, u, n) (by simp)
          · exact hlt x (by simp [hx])
theorem St.pendStore {k : K} {z : Value} {n : Int} (s : St w0 w (pendA enc venc z b m k n :: L)) (v : V) : ∃ w', (Instr.entryStore t (.map (some b)) (.int .i64 n) (venc v)).run P w = .ok () w' ∧ St w0 w' (mapA enc venc b (aput m k v) :: L) ∧ w'.heap.size = w.heap.size := by
  obtain ⟨arr, s⟩ := St.ex.1 s
  obtain ⟨clock, s⟩ := St.ex.1 s
  obtain ⟨⟨⟨i, hi, hv⟩, _⟩, s1⟩ := St.pure.1 (St.flat.1 s).swap
  obtain ⟨es, h1, h2, h3, h4, h5⟩ := hv v
  have hb := s1.obj_at.1
  have hbl := s1.lt
  have hg : (getObj b).run P w = .ok (.map arr clock) w := by simp [getObj, Sem.run, hb]
  have hset : ∀ o, (setObj b o).run P w = .ok () { w with heap := w.heap.setIfInBounds b o } := fun o => by simp [setObj, Sem.run, hb]
  refine ⟨{ w with heap := w.heap.setIfInBounds b (.map (es.map (ment enc venc)).toArray clock) }, ?_, St.mapShut (es := es) (clock := clock) (St.put s1 ?_ (fun j hj => ?_) (by simp) rfl rfl rfl) ⟨h2, h3, h4, h5⟩, by simp⟩
  · simp only [Instr.entryStore, Sem.run_bind, Result.andThen_ok, hg, asInt, asIntOf, Sem.run_pure, hi, h1, hset]
  · simp [Array.getElem?_setIfInBounds, hbl]
  · simp [Array.getElem?_setIfInBounds, Ne.symm hj]

/-! ### at the operations -/
variable {ops : Array Oper} {rest : List Oper} {o : Oper} {a : Act} {Q : Exit → Act → World → Prop} {KK : Act → World → Prop} {E : Prop}

theorem step_mapEntry (hgd : o.guard = none) (x y : Operand) (ho : o.op = .mapEntry t x y) (H : KeyTy P kt enc) (ht : P.underlying t = some (.map kt e)) {z : Value} (hz : ∀ w, (zeroValue e).run P w = .ok z w)
    (s : St w0 w (mapA enc venc b m :: L)) (hx : a.eval x = .map (some b)) (k : K) (hy : a.eval y = enc k)
    (h : ∀ v n w', St w0 w' (pendA enc venc z b m k n :: L) → KK (a.put o.dst (.tuple #[v, .int .i64 n])) w') : if Region.wanted o (yielded ops a.tmps) = true then Oper.wp P o a w KK Q else E := by
  rw [if_pos (by simp [Region.wanted, hgd])]
  obtain ⟨v, n, w', hr, s', _⟩ := s.mapPend H ht hz k
  unfold Oper.wp execOp
  simp only [ho, hx, hy, Sem.run_bind, hr, Result.andThen_ok, Sem.run_pure]
  exact h v n w' s'
theorem step_entryStore {z : Value} (hgd : o.guard = none) (x y u : Operand) (ho : o.op = .entryStore t x y u) (k : K) (n : Int) (s : St w0 w (pendA enc venc z b m k n :: L)) (hx : a.eval x = .map (some b)) (hy : a.eval y = .int .i64 n) (v : V) (hu : a.eval u = venc v)
    (h : ∀ w', St w0 w' (mapA enc venc b (aput m k v) :: L) → KK (a.put o.dst undef) w') : if Region.wanted o (yielded ops a.tmps) = true then Oper.wp P o a w KK Q else E := by
  rw [if_pos (by simp [Region.wanted, hgd])]
  obtain ⟨w', hr, s', _⟩ := s.pendStore (P := P) (t := t) v
  unfold Oper.wp execOp
  simp only [ho, hx, hy, hu, Sem.run_bind, hr, Result.andThen_ok, Sem.run_pure]
  exact h w' s'
theorem upon_mapEntry (H : KeyTy P kt enc) (ht : P.underlying t = some (.map kt e)) {z : Value} (hz : ∀ w, (zeroValue e).run P w = .ok z w) (s : St w0 w (mapA enc venc b m :: L)) (k : K) {kv : Value} (hk : kv = enc k)
    (h : ∀ v n w', St w0 w' (pendA enc venc z b m k n :: L) → KK (a.put o.dst (.tuple #[v, .int .i64 n])) w') :
    o.upon P a KK Q (((Instr.mapEntry t (.map (some b)) kv).run P w).andThen fun a w' => .ok (.value a) w') := by
  subst hk
  obtain ⟨v, n, w', hr, s', _⟩ := s.mapPend H ht hz k
  rw [hr]; exact h v n w' s'
theorem upon_lookup (H : KeyTy P kt enc) (ht : P.underlying t = some (.map kt e)) {z : Value} (hz : ∀ w, (zeroValue e).run P w = .ok z w) (s : St w0 w (mapA enc venc b m :: L)) (k : K) {kv : Value} (hk : kv = enc k)
    (h : KK (a.put o.dst (orZ venc z (aget m k))) w) : o.upon P a KK Q (((Instr.lookup t (.map (some b)) kv false).run P w).andThen fun a w' => .ok (.value a) w') := by
  subst hk
  rw [(s.lookup H ht hz k).1]; exact h
theorem upon_pendLookup (H : KeyTy P kt enc) (ht : P.underlying t = some (.map kt e)) {z : Value} (k : K) (n : Int) (s : St w0 w (pendA enc venc z b m k n :: L)) {kv : Value} (hk : kv = enc k)
    (h : KK (a.put o.dst (orZ venc z (aget m k))) w) : o.upon P a KK Q (((Instr.lookup t (.map (some b)) kv false).run P w).andThen fun a w' => .ok (.value a) w') := by
  subst hk
  rw [s.pendLookup H ht]; exact h
theorem upon_entryStore {z : Value} (k : K) (n : Int) (s : St w0 w (pendA enc venc z b m k n :: L)) (v : V) {vv : Value} (hv : vv = venc v)
    (h : ∀ w', St w0 w' (mapA enc venc b (aput m k v) :: L) → KK (a.put o.dst undef) w') :
    o.upon P a KK Q (((Instr.entryStore t (.map (some b)) (.int .i64 n) vv).run P w).andThen fun _ w' => .ok .skip w') := by
  subst hv
  obtain ⟨w', hr, s', _⟩ := s.pendStore (P := P) (t := t) v
  rw [hr]; exact h w' s'
theorem upon_mapPut (H : KeyTy P kt enc) (ht : P.underlying t = some (.map kt e)) (s : St w0 w (mapA enc venc b m :: L)) (k : K) {kv : Value} (hk : kv = enc k) (v : V) {vv : Value} (hv : vv = venc v)
    (h : ∀ w', St w0 w' (mapA enc venc b (aput m k v) :: L) → KK (a.put o.dst undef) w') :
    o.upon P a KK Q (((Instr.mapUpdate t (.map (some b)) kv vv).run P w).andThen fun _ w' => .ok .skip w') := by
  subst hk; subst hv
  obtain ⟨w', hr, s', _⟩ := s.mapPut H ht k v
  rw [hr]; exact h w' s'
theorem wpList_mapPut (hgd : o.guard = none) (x y u : Operand) (ho : o.op = .mapUpdate t x y u) (H : KeyTy P kt enc) (ht : P.underlying t = some (.map kt e))
    (s : St w0 w (mapA enc venc b m :: L)) (hx : a.eval x = .map (some b)) (k : K) (hy : a.eval y = enc k) (v : V) (hu : a.eval u = venc v)
    (h : ∀ w', St w0 w' (mapA enc venc b (aput m k v) :: L) → wpList P ops Q rest (a.put o.dst undef) w') : wpList P ops Q (o :: rest) a w := by
  refine wpList_plain hgd fun K' hK' => ?_
  obtain ⟨w', hr, s', _⟩ := s.mapPut H ht k v
  unfold Oper.wp execOp
  simp only [ho, hx, hy, hu, Sem.run_bind, hr, Result.andThen_ok, Sem.run_pure]
  exact hK' _ _ (h w' s')
theorem step_mapPut (hgd : o.guard = none) (x y u : Operand) (ho : o.op = .mapUpdate t x y u) (H : KeyTy P kt enc) (ht : P.underlying t = some (.map kt e))
    (s : St w0 w (mapA enc venc b m :: L)) (hx : a.eval x = .map (some b)) (k : K) (hy : a.eval y = enc k) (v : V) (hu : a.eval u = venc v)
    (h : ∀ w', St w0 w' (mapA enc venc b (aput m k v) :: L) → KK (a.put o.dst undef) w') : if Region.wanted o (yielded ops a.tmps) = true then Oper.wp P o a w KK Q else E := by
  rw [if_pos (by simp [Region.wanted, hgd])]
  obtain ⟨w', hr, s', _⟩ := s.mapPut H ht k v
  unfold Oper.wp execOp
  simp only [ho, hx, hy, hu, Sem.run_bind, hr, Result.andThen_ok, Sem.run_pure]
  exact h w' s'
theorem wpList_mapDel (hgd : o.guard = none) (x y : Operand) (kt' : TypeId) (ho : o.op = .call { callee := .builtin .delete, args := #[x, y], argTypes := #[t, kt'] }) (H : KeyTy P kt enc) (ht : P.underlying t = some (.map kt e))
    (s : St w0 w (mapA enc venc b m :: L)) (hx : a.eval x = .map (some b)) (k : K) (hy : a.eval y = enc k)
    (h : ∀ w', St w0 w' (mapA enc venc b (adel m k) :: L) → wpList P ops Q rest (a.put o.dst (.tuple #[])) w') : wpList P ops Q (o :: rest) a w := by
  refine wpList_plain hgd fun K' hK' => ?_
  obtain ⟨w', hr, s', _⟩ := s.mapDel H ht k o.type kt'
  unfold Oper.wp execOp
  simp only [ho, resolve, invoke, builtin, Sem.run_bind, Sem.run_pure, Result.andThen_ok, List.map_toArray, List.map_cons, List.map_nil, hx, hy, hr]
  exact hK' _ _ (h w' s')
theorem upon_mapDel (H : KeyTy P kt enc) (ht : P.underlying t = some (.map kt e)) (s : St w0 w (mapA enc venc b m :: L)) (k : K) (kt' ty : TypeId) {kv : Value} (hk : kv = enc k)
    (h : ∀ w', St w0 w' (mapA enc venc b (adel m k) :: L) → KK (a.put o.dst (.tuple #[])) w') :
    o.upon P a KK Q (((Builtin.delete_ #[t, kt'] ty #[.map (some b), kv]).run P w).andThen fun a w' => .ok (.value a) w') := by
  subst hk
  obtain ⟨w', hr, s', _⟩ := s.mapDel H ht k ty kt'
  rw [hr]; exact h w' s'
theorem step_mapDel (hgd : o.guard = none) (x y : Operand) (kt' : TypeId) (ho : o.op = .call { callee := .builtin .delete, args := #[x, y], argTypes := #[t, kt'] }) (H : KeyTy P kt enc) (ht : P.underlying t = some (.map kt e))
    (s : St w0 w (mapA enc venc b m :: L)) (hx : a.eval x = .map (some b)) (k : K) (hy : a.eval y = enc k)
    (h : ∀ w', St w0 w' (mapA enc venc b (adel m k) :: L) → KK (a.put o.dst (.tuple #[])) w') : if Region.wanted o (yielded ops a.tmps) = true then Oper.wp P o a w KK Q else E := by
  rw [if_pos (by simp [Region.wanted, hgd])]
  obtain ⟨w', hr, s', _⟩ := s.mapDel H ht k o.type kt'
  unfold Oper.wp execOp
  simp only [ho, resolve, invoke, builtin, Sem.run_bind, Sem.run_pure, Result.andThen_ok, List.map_toArray, List.map_cons, List.map_nil, hx, hy, hr]
  exact h w' s'
end
end Go.Proofs.Ytfhfkfnffajciaa
