/- APPEND, of a slice that may be nil; the cells of rows of acts. -/
import Derived.Test.YtohpablkgfkelaaFOrderP
import Derived.Test.YtohpablkgfkelaaKOpen
import Derived.OwnWalk
import Derived.Laws.AppendOwnNone
namespace Go.Proofs.Ytohpablkgfkelaa
open Go.RowKit Go.Joins
set_option linter.unusedSimpArgs false
set_option linter.unusedVariables false
theorem append_any {P : Program} {w : World} {ops : Array Oper} {rest : List Oper} {o : Oper} {a : Act} {Q : Exit → Act → World → Prop} (hgd : o.guard = none) (s x : Operand) (t : TypeId)
    (ho : o.op = .call { callee := .builtin .append, args := #[s, x], argTypes := #[t, t] })
    (base : Nat) (e : TypeId) (i : TypeInfo) (z : Value) (size bytes : Nat) (ht : P.underlying t = some (.slice e)) (hi : P.info? e = some i) (hz : i.zero = some z)
    (hsize : i.size = size) (hby : i.bytes = bytes) (hzs : z.cells.size = size) (hsz : 0 < size)
    (v : Value) (n : Nat) (xs : List Value) (hs : a.eval s = v) (hown : w.ownsRow base e size v n xs)
    (ao : Option Addr) (m c : Nat) (news : List Value) (hx : a.eval x = .slice ao m c) (hl : news.length = m * size) (hnone : ao = none → m = 0 ∧ c = 0)
    (hnews : ∀ ad, ao = some ad → ∀ j u, news[j]? = some u → w.cell? (ad.add j) = some u) (h1 : ∀ u ∈ news, u.oneCell' = true)
    (h63 : n + m ≤ maxLen) (hbytes : (n + m) * bytes ≤ 140737488355328) (hbase : base ≤ w.heap.size)
    (h : ∀ v' w', w'.ownsRow base e size v' (n + m) (xs ++ news) → w.grownBy w' v.ownBlock → wpList P ops Q rest (a.put o.dst v') w') : wpList P ops Q (o :: rest) a w := by
  cases ao with
  | some ad => exact wpList_append_own w hgd s x t ho base e i z size bytes ht hi hz hsize hby hzs hsz v n xs hs hown ad m c news hx hl (hnews ad rfl) h1 h63 hbytes hbase fun v' w' h2 h3 _ => h v' w' h2 h3
  | none =>
    obtain ⟨rfl, rfl⟩ := hnone rfl
    have hn : news = [] := List.eq_nil_of_length_eq_zero (by simpa using hl)
    subst hn
    exact wpList_append_own_none hgd s x t ho base e i size ht hi v n xs hs hown hx (h v w (by simpa using hown) (World.grownBy.refl _ _))
theorem own_cells {w : World} {base : Nat} {e : TypeId} {s B n cap : Nat} {xs : List Value} (h : w.ownsRow base e s (.slice (some ⟨B, 0, none⟩) n cap) n xs) : ∀ j u, xs[j]? = some u → w.cell? ⟨B, j, none⟩ = some u := by
  intro j u hj
  rcases h.2 with ⟨h0, _⟩ | ⟨A, cap', cur, he, _, hb, hnc, hc, hs, ht⟩
  · cases h0
  · cases he
    rw [blk_cell hb, ← Array.getElem?_toList]
    rw [← ht, List.getElem?_take] at hj
    split at hj
    · exact hj
    · cases hj
theorem actL_take (l : List ActG) (k : Nat) : actL (l.take k) = (actL l).take (k * 8) := by
  induction l generalizing k with
  | nil => simp [actL]
  | cons x l ih =>
    cases k with
    | zero => simp [actL]
    | succ k =>
      have := ih k
      unfold actL at *
      rw [List.take_succ_cons, List.flatMap_cons, List.flatMap_cons, this, List.take_append]
      have e1 : List.take ((k + 1) * 8) x.cells.toList = x.cells.toList := List.take_of_length_le (by simp; omega)
      rw [e1]
      congr 2
      simp
      omega
theorem actL_drop (l : List ActG) (k : Nat) : actL (l.drop k) = (actL l).drop (k * 8) := by
  induction l generalizing k with
  | nil => simp [actL]
  | cons x l ih =>
    cases k with
    | zero => simp [actL]
    | succ k =>
      have := ih k
      unfold actL at *
      rw [List.drop_succ_cons, List.flatMap_cons, this, List.drop_append]
      have e1 : List.drop ((k + 1) * 8) x.cells.toList = [] := List.drop_eq_nil_of_le (by simp; omega)
      rw [e1, List.nil_append]
      congr 1
      simp
      omega
/-- the cells of a part of a row -/
theorem act_take {w : World} {base B n cap : Nat} {m : List ActG} (h : w.ownsRow base 33 8 (.slice (some ⟨B, 0, none⟩) n cap) n (actL m)) (k : Nat) : ∀ ad, (some (⟨B, 0, none⟩ : Addr)) = some ad → ∀ j u, (actL (m.take k))[j]? = some u → w.cell? (ad.add j) = some u := by
  rintro ad ⟨⟩ j u hj
  rw [Addr.add_lit, Nat.zero_add]
  refine own_cells h j u ?_
  rw [actL_take, List.getElem?_take] at hj
  split at hj
  · exact hj
  · cases hj
theorem act_drop {w : World} {base B n cap : Nat} {m : List ActG} (h : w.ownsRow base 33 8 (.slice (some ⟨B, 0, none⟩) n cap) n (actL m)) (k : Nat) (ao : Option Addr) (hao : ∀ ad, ao = some ad → ad = ⟨B, k * 8, none⟩) : ∀ ad, ao = some ad → ∀ j u, (actL (m.drop k))[j]? = some u → w.cell? (ad.add j) = some u := by
  intro ad had j u hj
  rw [hao ad had, Addr.add_lit]
  refine own_cells h _ u ?_
  rw [actL_drop, List.getElem?_drop] at hj
  exact hj
end Go.Proofs.Ytohpablkgfkelaa
