/- Rows that are owned: append, as a run and in a drawn region. -/
import Derived.Test.YtfhfkfnffajciaaRow
import Derived.Maps.AppendAt
namespace Go.Proofs.Ytfhfkfnffajciaa
open Go.RowKit
section
variable {w0 w w' : World} {L : List Asn} {e : TypeId} {size : Nat} {v v' : Value} {n m : Nat} {xs ys : List Value}
theorem St.runPush {P : Program} (t ty : TypeId) (i : TypeInfo) (z : Value) (bytes : Nat) (ht : P.underlying t = some (.slice e)) (hi : P.info? e = some i) (hz : i.zero = some z)
    (hsize : i.size = size) (hby : i.bytes = bytes) (hzs : z.cells.size = size) (hsz : 0 < size) (st : St w0 w (rowA e size v n xs :: L))
    (ad : Addr) (c : Nat) (news : List Value) (hl : news.length = m * size) (hnews : ∀ j u, news[j]? = some u → w.cell? (ad.add j) = some u) (h1 : ∀ u ∈ news, u.oneCell' = true)
    (hbytes : (n + m) * bytes ≤ 140737488355328) (hb0 : 0 < bytes) :
    ∃ ad' c' w', (Builtin.append_ #[t, t] ty #[v, .slice (some ad) m c]).run P w = .ok (.slice ad' (n + m) c') w' ∧ St w0 w' (rowA e size (.slice ad' (n + m) c') (n + m) (xs ++ news) :: L) := by
  have h63 : n + m ≤ maxLen := by
    have : (n + m) * 1 ≤ (n + m) * bytes := Nat.mul_le_mul_left _ hb0
    unfold maxLen; omega
  obtain ⟨v', w', hr, h1, h2, _, h4⟩ := run_append_own_at (P := P) w w0.heap.size t ty e i z size bytes ht hi hz hsize hby hzs hsz v n xs st.owns ad m c news hl hnews h1 h63 hbytes st.below.size
  have s' := st.rowTurn h2 h1 h4
  obtain ⟨ad', c', rfl⟩ := s'.rowShape
  exact ⟨ad', c', w', hr, s'⟩
variable {ops : Array Oper} {rest : List Oper} {o : Oper} {a : Act} {Q : Exit → Act → World → Prop} {KK : Act → World → Prop} {E : Prop}
theorem upon_push {P : Program} {t ty : TypeId} (i : TypeInfo) (z : Value) (bytes : Nat) (ht : P.underlying t = some (.slice e)) (hi : P.info? e = some i) (hz : i.zero = some z)
    (hsize : i.size = size) (hby : i.bytes = bytes) (hzs : z.cells.size = size) (hsz : 0 < size) (st : St w0 w (rowA e size v n xs :: L))
    (ad : Addr) (c : Nat) (news : List Value) (hl : news.length = m * size) (hnews : ∀ j u, news[j]? = some u → w.cell? (ad.add j) = some u) (h1 : ∀ u ∈ news, u.oneCell' = true)
    (hbytes : (n + m) * bytes ≤ 140737488355328) (hb0 : 0 < bytes)
    (h : ∀ ad' c' w', St w0 w' (rowA e size (.slice ad' (n + m) c') (n + m) (xs ++ news) :: L) → KK (a.put o.dst (.slice ad' (n + m) c')) w') :
    o.upon P a KK Q (((Builtin.append_ #[t, t] ty #[v, .slice (some ad) m c]).run P w).andThen fun a w' => .ok (.value a) w') := by
  obtain ⟨ad', c', w', hr, s'⟩ := st.runPush t ty i z bytes ht hi hz hsize hby hzs hsz ad c news hl hnews h1 hbytes hb0
  rw [hr]; exact h ad' c' w' s'
theorem step_push {P : Program} {t : TypeId} (hgd : o.guard = none) (s x : Operand) (ho : o.op = .call { callee := .builtin .append, args := #[s, x], argTypes := #[t, t] })
    (i : TypeInfo) (z : Value) (bytes : Nat) (ht : P.underlying t = some (.slice e)) (hi : P.info? e = some i) (hz : i.zero = some z)
    (hsize : i.size = size) (hby : i.bytes = bytes) (hzs : z.cells.size = size) (hsz : 0 < size) (st : St w0 w (rowA e size v n xs :: L)) (hs : a.eval s = v)
    (ad : Addr) (c : Nat) (news : List Value) (hx : a.eval x = .slice (some ad) m c) (hl : news.length = m * size) (hnews : ∀ j u, news[j]? = some u → w.cell? (ad.add j) = some u) (h1 : ∀ u ∈ news, u.oneCell' = true)
    (hbytes : (n + m) * bytes ≤ 140737488355328) (hb0 : 0 < bytes)
    (h : ∀ ad' c' w', St w0 w' (rowA e size (.slice ad' (n + m) c') (n + m) (xs ++ news) :: L) → KK (a.put o.dst (.slice ad' (n + m) c')) w') :
    if Region.wanted o (yielded ops a.tmps) = true then Oper.wp P o a w KK Q else E := by
  rw [if_pos (by simp [Region.wanted, hgd])]
  obtain ⟨ad', c', w', hr, s'⟩ := st.runPush t o.type i z bytes ht hi hz hsize hby hzs hsz ad c news hl hnews h1 hbytes hb0
  unfold Oper.wp execOp
  simp only [ho, resolve, invoke, builtin, Sem.run_bind, Sem.run_pure, Result.andThen_ok, List.map_toArray, List.map_cons, List.map_nil, hs, hx, hr]
  exact h ad' c' w' s'
end
end Go.Proofs.Ytfhfkfnffajciaa
