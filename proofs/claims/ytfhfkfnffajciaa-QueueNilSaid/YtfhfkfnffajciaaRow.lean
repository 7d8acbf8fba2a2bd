/- Slices that are owned: an assertion; reading, append, store, cutting. -/
import Derived.Test.YtfhfkfnffajciaaSl
import Derived.Maps.AppendAt
namespace Go.Proofs.Ytfhfkfnffajciaa
open Go.RowKit
set_option linter.unusedSectionVars false
set_option linter.unusedSimpArgs false

/-- the slice value v of n elements, of type e and so many cells each, owns its array, whose first cells are xs -/
def rowA (e : TypeId) (size : Nat) (v : Value) (n : Nat) (xs : List Value) : Asn := fun h =>
  (v = .slice none 0 0 ∧ n = 0 ∧ xs = [] ∧ emp h) ∨
  ∃ g cap sp, v = .slice (some ⟨g, 0, none⟩) n cap ∧ xs.length = n * size ∧ n ≤ cap ∧ cap ≤ maxLen ∧ (xs ++ sp).length = cap * size ∧ cells g (xs ++ sp) e h

section
variable {w0 w w' : World} {L : List Asn} {e : TypeId} {size : Nat} {v v' : Value} {n m : Nat} {xs ys : List Value}

theorem St.mk_emp (s : St w0 w L) : St w0 w (Go.Proofs.Ytfhfkfnffajciaa.emp :: L) :=
  let ⟨hb, h, r, i, d⟩ := s; ⟨hb, h, ⟨Frag.none, h, (disj_none _).symm, rfl, r, (none_un h).symm⟩, i, d⟩
theorem St.or {A B : Asn} (s : St w0 w ((fun h => A h ∨ B h) :: L)) : St w0 w (A :: L) ∨ St w0 w (B :: L) := by
  obtain ⟨hb, h, ⟨h1, h2, dd, a | a, r, e⟩, i, d⟩ := s
  · exact .inl ⟨hb, h, ⟨h1, h2, dd, a, r, e⟩, i, d⟩
  · exact .inr ⟨hb, h, ⟨h1, h2, dd, a, r, e⟩, i, d⟩

theorem St.rowOpen (s : St w0 w (rowA e size v n xs :: L)) : (v = .slice none 0 0 ∧ n = 0 ∧ xs = [] ∧ St w0 w L) ∨
    ∃ g cap sp, v = .slice (some ⟨g, 0, none⟩) n cap ∧ xs.length = n * size ∧ n ≤ cap ∧ cap ≤ maxLen ∧ (xs ++ sp).length = cap * size ∧ St w0 w (cells g (xs ++ sp) e :: L) := by
  obtain ⟨hb, h, ⟨h1, h2, dd, a, r, ee⟩, i, d⟩ := s
  rcases a with ⟨a1, a2, a3, a4⟩ | ⟨g, cap, sp, a1, a2, a3, a4, a5, a6⟩
  · exact .inl ⟨a1, a2, a3, St.drop (A := Go.Proofs.Ytfhfkfnffajciaa.emp) ⟨hb, h, ⟨h1, h2, dd, a4, r, ee⟩, i, d⟩⟩
  · exact .inr ⟨g, cap, sp, a1, a2, a3, a4, a5, hb, h, ⟨h1, h2, dd, a6, r, ee⟩, i, d⟩
theorem St.rowNil (s : St w0 w L) : St w0 w (rowA e size (.slice none 0 0) 0 [] :: L) := s.mk_emp.mono fun _ h => .inl ⟨rfl, rfl, rfl, h⟩
theorem St.rowMk {g cap : Nat} {sp : List Value} (s : St w0 w (cells g (xs ++ sp) e :: L)) (h1 : xs.length = n * size) (h2 : n ≤ cap) (h3 : cap ≤ maxLen) (h4 : (xs ++ sp).length = cap * size) :
    St w0 w (rowA e size (.slice (some ⟨g, 0, none⟩) n cap) n xs :: L) := s.mono fun _ h => .inr ⟨g, cap, sp, rfl, h1, h2, h3, h4, h⟩
theorem St.rowLen (s : St w0 w (rowA e size v n xs :: L)) : xs.length = n * size := by
  rcases s.rowOpen with ⟨_, rfl, rfl, _⟩ | ⟨_, _, _, _, h, _⟩
  · simp
  · exact h
theorem St.rowMax (s : St w0 w (rowA e size v n xs :: L)) : n ≤ maxLen := by
  rcases s.rowOpen with ⟨_, rfl, rfl, _⟩ | ⟨_, _, _, _, _, h2, h3, _⟩
  · exact Nat.zero_le _
  · exact Nat.le_trans h2 h3
theorem St.rowShape (s : St w0 w (rowA e size v n xs :: L)) : ∃ ad c, v = .slice ad n c := by
  rcases s.rowOpen with ⟨rfl, rfl, rfl, _⟩ | ⟨_, _, _, rfl, _⟩
  · exact ⟨_, _, rfl⟩
  · exact ⟨_, _, rfl⟩
theorem St.owns (s : St w0 w (rowA e size v n xs :: L)) : w.ownsRow w0.heap.size e size v n xs := by
  rcases s.rowOpen with ⟨rfl, rfl, rfl, _⟩ | ⟨g, cap, sp, rfl, h1, h2, h3, h4, s⟩
  · exact World.ownsRow_nil _ _ _ _
  · refine ⟨h1, .inr ⟨g, cap, _, rfl, s.obj_at.2, s.heap, h2, h3, by simpa using h4, ?_⟩⟩
    rw [← h1]; simp
theorem St.rowOf (h : w.ownsRow w0.heap.size e size v n xs) :
    (v = .slice none 0 0 ∧ n = 0 ∧ xs = []) ∨ ∃ g cap sp, v = .slice (some ⟨g, 0, none⟩) n cap ∧ xs.length = n * size ∧ n ≤ cap ∧ cap ≤ maxLen ∧ (xs ++ sp).length = cap * size ∧
      w.heap[g]? = some (.cells (xs ++ sp).toArray e (0, 0)) ∧ w0.heap.size ≤ g := by
  obtain ⟨h1, h2⟩ := h
  rcases h2 with ⟨rfl, rfl⟩ | ⟨g, cap, cur, rfl, hbg, hg, hnc, hcm, hcs, ht⟩
  · exact .inl ⟨rfl, rfl, List.eq_nil_of_length_eq_zero (by simpa using h1)⟩
  · refine .inr ⟨g, cap, cur.toList.drop (n * size), rfl, h1, hnc, hcm, ?_, ?_, hbg⟩
    · rw [← ht, List.take_append_drop]; simpa using hcs
    · rw [← ht, List.take_append_drop]; simpa using hg
/-- a block that no assertion speaks of is taken up -/
theorem St.retake {b : Nat} {o : Obj} {h : Frag} (hbel : Below w0.heap.size w0 w') (r : Star L h) (i : ∀ k x, h k = some x → w'.heap[k]? = some x) (d : ∀ k, k < w0.heap.size → h k = none)
    (hn : h b = none) (hge : w0.heap.size ≤ b) (hb : w'.heap[b]? = some o) : St w0 w' (obj b o :: L) := by
  refine ⟨hbel, Frag.un (fun k => if k = b then some o else none) h, ⟨_, h, fun k => ?_, rfl, r, rfl⟩, fun k x e => ?_, fun k hlt => ?_⟩
  · by_cases hk : k = b
    · subst hk; exact .inr hn
    · left; simp [hk]
  · by_cases hk : k = b
    · subst hk; simp [Frag.un] at e; subst e; exact hb
    · exact i k x (by simpa [Frag.un, hk] using e)
  · have hk : k ≠ b := by omega
    simp [Frag.un, hk, d k hlt]
theorem St.retakeRow {h : Frag} (hbel : Below w0.heap.size w0 w') (r : Star L h) (i : ∀ k x, h k = some x → w'.heap[k]? = some x) (d : ∀ k, k < w0.heap.size → h k = none)
    (ho : w'.ownsRow w0.heap.size e size v' m ys) (hn : ∀ b, v'.ownBlock = some b → h b = none) : St w0 w' (rowA e size v' m ys :: L) := by
  rcases St.rowOf ho with ⟨rfl, rfl, rfl⟩ | ⟨g, cap, sp, rfl, h1, h2, h3, h4, hg, hge⟩
  · exact St.rowNil ⟨hbel, h, r, i, d⟩
  · exact St.rowMk (St.retake hbel r i d (hn g rfl) hge hg) h1 h2 h3 h4
/-- behind a law that ends in 'grownBy' -/
theorem St.rowTurn (s : St w0 w (rowA e size v n xs :: L)) (hg : w.grownBy w' v.ownBlock) (ho : w'.ownsRow w0.heap.size e size v' m ys)
    (hloc : v'.ownBlock = v.ownBlock ∨ v'.ownBlock = some w.heap.size) : St w0 w' (rowA e size v' m ys :: L) := by
  rcases s.rowOpen with ⟨rfl, rfl, rfl, hb, h, r, i, d⟩ | ⟨g, cap, sp, rfl, h1, h2, h3, h4, s1⟩
  · have hlt : ∀ k x, h k = some x → k < w.heap.size := fun k x e => (Array.getElem?_eq_some_iff.1 (i k x e)).1
    have hbel : Below w0.heap.size w0 w' := ⟨hg.os.trans hb.os, hg.tape.trans hb.tape, hg.output.trans hb.output, Nat.le_trans hb.size hg.size,
      fun k hk => (hg.block k (Nat.lt_of_lt_of_le hk hb.size) (by simp [Value.ownBlock])).trans (hb.block k hk)⟩
    refine St.retakeRow hbel r (fun k x e => ?_) d ho (fun b hb' => ?_)
    · rw [hg.block k (hlt k x e) (by simp [Value.ownBlock])]; exact i k x e
    · rcases hloc with e | e
      · rw [e] at hb'; simp [Value.ownBlock] at hb'
      · rw [e] at hb'; cases hb'
        cases hx : h w.heap.size with
        | none => rfl
        | some x => have := hlt _ _ hx; omega
  · have hge := s1.obj_at.2
    have hgl := s1.lt
    obtain ⟨hb, h, ⟨hh, h0, dd, rfl, r, rfl⟩, i, d⟩ := s1
    have hg0 : h0 g = none := (dd g).resolve_left (by simp)
    have e0 : ∀ k x, h0 k = some x → k ≠ g := fun k x e hk => by subst hk; rw [hg0] at e; cases e
    have i0 : ∀ k x, h0 k = some x → w.heap[k]? = some x := fun k x e => i k x (by simp [Frag.un, e0 k x e, e])
    have d0 : ∀ k, k < w0.heap.size → h0 k = none := fun k hk => by
      have := d k hk; have hne : k ≠ g := by omega
      simpa [Frag.un, hne] using this
    have hlt : ∀ k x, h0 k = some x → k < w.heap.size := fun k x e => (Array.getElem?_eq_some_iff.1 (i0 k x e)).1
    have hbel : Below w0.heap.size w0 w' := ⟨hg.os.trans hb.os, hg.tape.trans hb.tape, hg.output.trans hb.output, Nat.le_trans hb.size hg.size,
      fun k hk => (hg.block k (Nat.lt_of_lt_of_le hk hb.size) (by simp [Value.ownBlock]; omega)).trans (hb.block k hk)⟩
    refine St.retakeRow hbel r (fun k x e => ?_) d0 ho (fun b hb' => ?_)
    · rw [hg.block k (hlt k x e) (by have := e0 k x e; simp [Value.ownBlock, this])]; exact i0 k x e
    · rcases hloc with e | e
      · rw [e] at hb'; simp [Value.ownBlock] at hb'; subst hb'; exact hg0
      · rw [e] at hb'; cases hb'
        cases hx : h0 w.heap.size with
        | none => rfl
        | some x => have := hlt _ _ hx; omega
/-- append, at the operation -/
theorem wpList_push {P : Program} {ops : Array Oper} {rest : List Oper} {o : Oper} {a : Act} {Q : Exit → Act → World → Prop} (hgd : o.guard = none) (s x : Operand) (t : TypeId)
    (ho : o.op = .call { callee := .builtin .append, args := #[s, x], argTypes := #[t, t] })
    (i : TypeInfo) (z : Value) (bytes : Nat) (ht : P.underlying t = some (.slice e)) (hi : P.info? e = some i) (hz : i.zero = some z)
    (hsize : i.size = size) (hby : i.bytes = bytes) (hzs : z.cells.size = size) (hsz : 0 < size)
    (st : St w0 w (rowA e size v n xs :: L)) (hs : a.eval s = v)
    (ad : Addr) (c : Nat) (news : List Value) (hx : a.eval x = .slice (some ad) m c) (hl : news.length = m * size) (hnews : ∀ j u, news[j]? = some u → w.cell? (ad.add j) = some u) (h1 : ∀ u ∈ news, u.oneCell' = true)
    (hbytes : (n + m) * bytes ≤ 140737488355328) (hb0 : 0 < bytes)
    (h : ∀ ad' c' w', St w0 w' (rowA e size (.slice ad' (n + m) c') (n + m) (xs ++ news) :: L) → wpList P ops Q rest (a.put o.dst (.slice ad' (n + m) c')) w') :
    wpList P ops Q (o :: rest) a w := by
  have h63 : n + m ≤ maxLen := by
    have : (n + m) * 1 ≤ (n + m) * bytes := Nat.mul_le_mul_left _ hb0
    unfold maxLen; omega
  refine wpList_append_own_at w hgd s x t ho w0.heap.size e i z size bytes ht hi hz hsize hby hzs hsz v n xs hs st.owns ad m c news hx hl hnews h1 h63 hbytes st.below.size ?_
  intro v' w' h1 h2 _ h4
  have s' := st.rowTurn h2 h1 h4
  obtain ⟨ad', c', rfl⟩ := s'.rowShape
  exact h ad' c' w' s'
end
end Go.Proofs.Ytfhfkfnffajciaa
